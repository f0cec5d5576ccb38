/- cover.Missing where the set is one. -/
import Derived.Test.YtlfemkelnllmnaaMissing
set_option linter.all false
set_option linter.unusedVariables false
set_option linter.unusedSimpArgs false
namespace Go.Proofs.Ytlfemkelnllmnaa
open Go.RowKit
attribute [local go_sem] Oper.semAt_some

theorem field_ne {W : World} {bf nb : Nat} {a : Option Addr} {cap : Nat} {x : Fld} {um mb : Nat} {T : Nat} {n : Int} (hf : FieldC W bf a cap x um mb) (hn : Boxed W nb T (.int .i64 n)) : bf ≠ nb := fun e => by
  have h1 := hf.c0
  rw [e, hn.cell] at h1; cases h1
theorem rest_set {W : World} {bf b8 nb mb : Nat} {a : Option Addr} {cap : Nat} {x : Fld} {um : Nat} {m : Int × Int → Option Value} {T T8 : Nat} {n : Int} {u : Value} (hf : FieldC W bf a cap x um mb) (hm : MapIs W mb placeV m) (hb : Boxed W b8 T8 (.pointer (some ⟨bf, 0, none⟩))) (hn : Boxed W nb T (.int .i64 n)) :
    FieldC (W.setCell ⟨nb, 0, none⟩ u) bf a cap x um mb ∧ MapIs (W.setCell ⟨nb, 0, none⟩ u) mb placeV m ∧ Boxed (W.setCell ⟨nb, 0, none⟩ u) b8 T8 (.pointer (some ⟨bf, 0, none⟩)) := by
  refine ⟨hf.keptG (n₀ := 0) (bx := bf) (kpG_set u (Nat.zero_le _) (field_ne hf hn) (field_ne hf hn)), hm.of_heap (Below.heap_setCell _ _ _ _ (fun e => ?_)), hb.other (fun e => ?_) _⟩
  · obtain ⟨o, ho, hc⟩ := hm.isMap
    have h2 : W.heap[mb]? = some (.cells #[.int .i64 n] T) := e ▸ hn
    rw [h2] at ho; cases ho; cases hc
  · have h1 := hb.cell
    rw [e, hn.cell] at h1; cases h1

/-- One more place that is not served: the first one, and a later one. -/
theorem MInv.first {w : World} {bf b8 mb : Nat} {m : Int × Int → Option Value} {a : Option Addr} {cap : Nat} {x : Fld} {s : Nat} {pre : List (Int × Int)} {q : Int × Int} {W : World} (h : MInv w bf b8 mb m a cap x s pre W) (he : missL x s pre = []) (hq : missL x s (pre ++ [q]) = [q]) :
    MInv w bf b8 mb m a cap x s (pre ++ [q]) (((W.setCell ⟨w.heap.size + 1 + 1, 0, none⟩ (.int .i64 q.1)).setCell ⟨w.heap.size + 1 + 1 + 1, 0, none⟩ (.int .i64 q.2)).setCell ⟨w.heap.size + 1 + 1 + 1 + 1, 0, none⟩ (.int .i64 1)) := by
  have r1 := rest_set (u := .int .i64 q.1) h.f h.m h.b h.t.e
  have t1 := h.t.setE q.1
  have r2 := rest_set (u := .int .i64 q.2) r1.1 r1.2.1 r1.2.2 t1.n
  have t2 := t1.setN q.2
  have r3 := rest_set (u := .int .i64 1) r2.1 r2.2.1 r2.2.2 t2.k
  have t3 := t2.setK 1
  refine ⟨?_, r3.1, r3.2.1, r3.2.2⟩
  rw [hq]; exact t3
theorem MInv.later {w : World} {bf b8 mb : Nat} {m : Int × Int → Option Value} {a : Option Addr} {cap : Nat} {x : Fld} {s : Nat} {pre : List (Int × Int)} {q : Int × Int} {W : World} (h : MInv w bf b8 mb m a cap x s pre W) (he : missL x s pre ≠ []) (hq : missL x s (pre ++ [q]) = missL x s pre ++ [q]) :
    MInv w bf b8 mb m a cap x s (pre ++ [q]) (W.setCell ⟨w.heap.size + 1 + 1 + 1 + 1, 0, none⟩ (.int .i64 (((missL x s pre).length : Int) + 1))) := by
  have r3 := rest_set (u := .int .i64 (((missL x s pre).length : Int) + 1)) h.f h.m h.b h.t.k
  have t3 := h.t.setK (((missL x s pre).length : Int) + 1)
  refine ⟨?_, r3.1, r3.2.1, r3.2.2⟩
  rw [hq]
  have e1 : firstP (missL x s pre ++ [q]) = firstP (missL x s pre) := by
    cases hm : missL x s pre with
    | nil => exact absurd hm he
    | cons y ys => rfl
  have e2 : ((missL x s pre ++ [q]).length : Int) = ((missL x s pre).length : Int) + 1 := by simp
  rw [e1, e2]; exact t3

theorem top6_leave {w W : World} {D : Nat} {s e n k er : Int} {r1 r2 r3 r4 : Int} (tm : Array Value) (h : Top6 w s e n k er W) (hK : W.heap[D]? = some (.deferred (some []))) (hD : w.heap.size + 1 + 1 + 1 + 1 + 1 < D)
    (h4 : tm[4]?.getD undef = .pointer (some ⟨w.heap.size + 1 + 1, 0, none⟩)) (h5 : tm[5]?.getD undef = .pointer (some ⟨w.heap.size + 1 + 1 + 1, 0, none⟩)) (h6 : tm[6]?.getD undef = .pointer (some ⟨w.heap.size + 1 + 1 + 1 + 1, 0, none⟩)) (h7 : tm[7]?.getD undef = .pointer (some ⟨w.heap.size + 1 + 1 + 1 + 1 + 1, 0, none⟩))
    (hr : r1 = e ∧ r2 = n ∧ r3 = k ∧ r4 = er) :
    LeavesInM Fence.wide 9 Try.prog Try.f14 tm (fun e' w' => e' = .returned (.tuple #[.int .i64 r1, .int .i64 r2, .int .i64 r3, .int .i64 r4]) ∧ Below w.heap.size w w') [{ target := .collected D, args := #[] }, { target := .fn (.func 26) #[], args := #[.pointer (some ⟨w.heap.size + 1 + 1 + 1 + 1 + 1, 0, none⟩)] }] .returning W := by
  obtain ⟨rfl, rfl, rfl, rfl⟩ := hr
  have k1 : Boxed (W.putObj D (.deferred none)) (w.heap.size + 1 + 1) 3 _ := (World.putObj_heap_other (by omega)).trans h.e
  have k2 : Boxed (W.putObj D (.deferred none)) (w.heap.size + 1 + 1 + 1) 3 _ := (World.putObj_heap_other (by omega)).trans h.n
  have k3 : Boxed (W.putObj D (.deferred none)) (w.heap.size + 1 + 1 + 1 + 1) 3 _ := (World.putObj_heap_other (by omega)).trans h.k
  have k4 : Boxed (W.putObj D (.deferred none)) (w.heap.size + 1 + 1 + 1 + 1 + 1) 30 _ := (World.putObj_heap_other (by omega)).trans h.er
  have c1 := k1.cell; have c2 := k2.cell; have c3 := k3.cell; have c4 := k4.cell
  refine leavesM_collected (by simp) hK (leavesM_told (v := .tuple #[.int .i64 r1, .int .i64 r2, .int .i64 r3, .int .i64 r4]) ?_ ⟨rfl, h.up.trans (putObj_below (.deferred none) (show w.heap.size ≤ D by omega))⟩)
  simp [results, Try.results14, go_sem, c1, c2, c3, c4, h4, h5, h6, h7]

set_option maxHeartbeats 4000000 in
set_option maxRecDepth 10000 in
theorem missing_some (a : Option Addr) (cap : Nat) (x : Fld) (s : Nat) (w : World) (hs : SlW 6 skyRow w (.slice a x.ps.length cap) x.ps) (hv : validB x = true) (hsl : s ≤ allN x) (r1 r2 r3 r4 : Int)
    (hr0 : missL x s (placesL x) = [] → r1 = 0 ∧ r2 = 0 ∧ r3 = 0 ∧ r4 = 4) (hr1 : missL x s (placesL x) ≠ [] → r1 = (firstP (missL x s (placesL x))).1 ∧ r2 = (firstP (missL x s (placesL x))).2 ∧ r3 = ((missL x s (placesL x)).length : Int) ∧ r4 = 0) :
    Calls Try.prog 14 #[fldV a cap x, .int .i64 (s : Int)] w fun e w' => e = .returned (.tuple #[.int .i64 r1, .int .i64 r2, .int .i64 r3, .int .i64 r4]) ∧ Below w.heap.size w w' := by
  have HR0 := Lib.hid hr0; have HR1 := Lib.hid hr1; clear hr0 hr1
  have h6 := top6_is w a cap x s
  have HO := Lib.hid (openP_calls a cap x w _ hs hv h6.up)
  have HPS := Lib.hid hs
  have htop : (((((w.alloc (.cells #[.slice a x.ps.length cap, .int .i64 x.e0, .int .i64 x.e1, .int .i64 x.n0, .int .i64 x.n1, .int .i64 x.d0, .int .i64 x.d1, .int .i64 x.depth, .int .i64 x.times, .int .i64 x.gap] 26)).alloc (.cells #[.int .i64 (s : Int)] 3)).alloc (.cells #[.int .i64 0] 3)).alloc (.cells #[.int .i64 0] 3)).alloc (.cells #[.int .i64 0] 3)).alloc (.cells #[.int .i64 0] 30) = top6 w a cap x s := rfl
  have hlen' := (valid_bounds hv).2.2.2.2.2.2.1
  have hal := allN_lt hlen'
  have hs4 : s < 4096 := by omega
  have hw : withinB (s : Int) 0 (allN x : Int) = true := by simp [withinB]; omega
  have HT := Lib.hid htop; have H6 := Lib.hid h6; have HW := Lib.hid hw
  clear htop hs h6 hw
  unfold fldV at *
  refine (callsIn_wide (n := 9)).1 ?_
  refine callsIn_of_wp_marks Try.func14 rfl trivial ?_ rfl
  simp only [Try.ntmps14, List.size_toArray, List.length_cons, List.length_nil, Nat.reduceAdd, Nat.reduceSub, Array.replicate_succ, Array.replicate_zero, List.push_toArray, List.append_toArray, List.nil_append, List.cons_append]
  gi_wp2
  rw [HT.out]
  generalize top6 w a cap x s = w0 at *
  refine ⟨trivial, (callsIn_wide.2 HO.out).mono ?_⟩
  rintro e w1 ⟨bf, rfl, hF, hb⟩
  have h := H6.out.below hb
  have hup1 : Below w1.heap.size w1 (w1.alloc (.cells #[.pointer (some ⟨bf, 0, none⟩)] 58)) := Up.alloc _ (Up.refl w1)
  obtain ⟨⟨mb, m, hf, hm, hq⟩, _⟩ := hF
  have hI := isSet_calls bf a cap x (w1.alloc (.cells #[.pointer (some ⟨bf, 0, none⟩)] 58)) s hlen' _ _ (hf.below (Nat.le_refl _) hup1)
  rw [HW.out] at hI
  have H := Lib.hid (h.below hup1)
  have HI := Lib.hid hI
  have HF := Lib.hid (hf.below (Nat.le_refl _) hup1); have HM := Lib.hid (show MapIs (w1.alloc (.cells #[.pointer (some ⟨bf, 0, none⟩)] 58)) mb placeV m from hm.of_heap (hup1.block _ hm.lt)); have HQ := Lib.hid hq
  have HB8 := Lib.hid (Boxed.new w1 58 (.pointer (some ⟨bf, 0, none⟩)))
  have cs := h.s.cell
  have ls := h.s.lt
  clear hb h hf hm hq hI hup1 H6 HO HT
  gi_wp2_with (first
    | (refine ⟨trivial, ?_⟩; gi_at_call 35; refine (callsIn_wide.2 HI.out).mono ?_; rintro e w' ⟨rfl, rfl⟩)
    | (refine ⟨trivial, ?_⟩; gi_at_call 34; refine (callsIn_wide.2 (must_true _ _)).mono ?_; rintro e w' ⟨rfl, rfl⟩)
    | (refine ⟨trivial, ?_⟩; gi_at_call 36; refine (callsIn_wide.2 (places_calls _ _)).mono ?_; rintro e w' ⟨rfl, rfl⟩))
  have hup2 : Below (w1.alloc (.cells #[.pointer (some ⟨bf, 0, none⟩)] 58)).heap.size (w1.alloc (.cells #[.pointer (some ⟨bf, 0, none⟩)] 58)) ((w1.alloc (.cells #[.pointer (some ⟨bf, 0, none⟩)] 58)).alloc (.cells #[.pointer (some ⟨bf, 0, none⟩)] 58)) := Up.alloc _ (Up.refl _)
  have hT2 := H.out.below hup2
  have hF2 := HF.out.below (Nat.le_refl _) hup2
  have hM2 : MapIs ((w1.alloc (.cells #[.pointer (some ⟨bf, 0, none⟩)] 58)).alloc (.cells #[.pointer (some ⟨bf, 0, none⟩)] 58)) mb placeV m := HM.out.of_heap (hup2.block _ HM.out.lt)
  have hB2 := boxed_below HB8.out (Nat.le_refl _) hup2
  have hX2 : Boxed ((w1.alloc (.cells #[.pointer (some ⟨bf, 0, none⟩)] 58)).alloc (.cells #[.pointer (some ⟨bf, 0, none⟩)] 58)) (w1.heap.size + 1) 58 (.pointer (some ⟨bf, 0, none⟩)) := by
    have h := Boxed.new (w1.alloc (.cells #[.pointer (some ⟨bf, 0, none⟩)] 58)) 58 (.pointer (some ⟨bf, 0, none⟩))
    simpa only [World.size_alloc] using h
  have hsz2 : ((w1.alloc (.cells #[.pointer (some ⟨bf, 0, none⟩)] 58)).alloc (.cells #[.pointer (some ⟨bf, 0, none⟩)] 58)).heap.size = w1.heap.size + 1 + 1 := by simp
  have hw1 : w.heap.size + 1 + 1 + 1 + 1 + 1 < w1.heap.size + 1 := by have := H.out.er.lt; simpa using this
  generalize (w1.alloc (.cells #[.pointer (some ⟨bf, 0, none⟩)] 58)).alloc (.cells #[.pointer (some ⟨bf, 0, none⟩)] 58) = w2 at *
  have HT2 := Lib.hid hT2; have HF2 := Lib.hid hF2; have HM2 := Lib.hid hM2; have HB2 := Lib.hid hB2
  have hwle : w.heap.size ≤ w2.heap.size := hT2.up.size
  have hbl := hF2.lt
  have hml := hM2.lt
  have hx2 := hX2.cell
  have HZ2 := Lib.hid hsz2
  have hxl := hX2.lt
  clear hT2 hF2 hM2 hB2 hX2 hsz2 hup2 HF HM HB8 HI cs ls
  refine wpIn_rangeFunc_ownH (F := Fence.wide) (n := 9) rfl (by omega) (gf := 58) (lb := #[.pointer (some ⟨w1.heap.size + 1, 0, none⟩)]) rfl trivial (enters_of Try.func58 (by kernel_rfl) rfl)
    (places1_stopsG 8 (by omega) (w1.heap.size + 1) bf w.heap.size a cap x (usefulM x) mb _ hv HF2.out hxl hwle hx2) kpG_t (kpG_b hwle) (Below.refl _ _) (fun _ => rfl)
    (fun pre W => MInv w bf w1.heap.size mb m a cap x s pre W) (fun _ _ _ => False) (MInv.own w bf w1.heap.size mb m a cap x s _ hwle hml) (fun _ _ _ _ _ hs _ _ => hs) ?start
    (PlaceAx (w1.heap.size + 1) (fun q b => { tmps := #[.agg #[.slice a x.ps.length cap, .int .i64 x.e0, .int .i64 x.e1, .int .i64 x.n0, .int .i64 x.n1, .int .i64 x.d0, .int .i64 x.d1, .int .i64 x.depth, .int .i64 x.times, .int .i64 x.gap], .int .i64 (s : Int), .pointer (some ⟨w.heap.size, 0, none⟩), .pointer (some ⟨w.heap.size + 1, 0, none⟩), .pointer (some ⟨w.heap.size + 1 + 1, 0, none⟩), .pointer (some ⟨w.heap.size + 1 + 1 + 1, 0, none⟩), .pointer (some ⟨w.heap.size + 1 + 1 + 1 + 1, 0, none⟩), .pointer (some ⟨w.heap.size + 1 + 1 + 1 + 1 + 1, 0, none⟩), .pointer (some ⟨w1.heap.size, 0, none⟩), .pointer (some ⟨b, 0, none⟩), .agg #[.slice a x.ps.length cap, .int .i64 x.e0, .int .i64 x.e1, .int .i64 x.n0, .int .i64 x.n1, .int .i64 x.d0, .int .i64 x.d1, .int .i64 x.depth, .int .i64 x.times, .int .i64 x.gap], .pointer (some ⟨bf, 0, none⟩), .pointer (some ⟨bf, 0, none⟩), .int .i64 (s : Int), .bool true, .tuple #[], .pointer (some ⟨bf, 0, none⟩), .func (.func 58) #[] #[.pointer (some ⟨w1.heap.size + 1, 0, none⟩)], placeV q, undef, undef, undef, undef, undef, undef, undef, undef, undef, undef, undef, undef, undef, undef, undef, undef, undef, undef, undef, undef, undef, undef, undef, undef], defers := [] })) (placeAx_own _ _ _) ?assign ?body ?done ?stop
  case assign =>
    intro l pre q W K hI hK
    dsimp only [encPl, placeV]
    gi_wp2
    refine hK _ _ ((KeepsOthers.alloc _ _).from _) ⟨(Below.refl _ _).alloc hI.t.up.size _, fun _ _ _ v hv => cell_kept hv (World.grownBy_alloc _ _ none) (fun r e => by cases e)⟩ ?_ ⟨W.heap.size, ?_, by simp, by go_simp, by go_simp, rfl⟩
    · exact MInv.own w bf w1.heap.size mb m a cap x s w2.heap.size hwle hml pre W _ none hI (World.grownBy_alloc _ _ _) (fun r e => by cases e)
    · have := hI.b.lt; omega
  case start => exact ⟨HT2.out, HF2.out, HM2.out, HB2.out⟩
  case body =>
    rintro l pre q a' W hl ⟨r, hr⟩ hI ⟨b, hbB, hbl2, q1, q2, rfl⟩ hlen
    have HI := Lib.hid hI
    obtain ⟨hT, hF, hM, hB8⟩ := hI
    have hlen2 : pre.length < 1090 := Nat.lt_of_lt_of_le hlen (Nat.le_succ_of_le (places_len hv))
    have hml2 := missL_len x s pre
    have hsn := missL_snoc x s pre q
    have hat : atM x q < 4096 := Nat.lt_of_lt_of_le (maskN_lt _ _) (two_pow_le _ hlen')
    have hla := land_u64 (atM x q) s hat hs4
    have hlt := land_lt (atM x q) s hat
    have c8 := hB8.cell; have l8 := hB8.lt
    have c11 := hF.c11; have lbf := hF.lt
    have cs := hT.s.cell; have ls := hT.s.lt
    have ce := hT.e.cell; have le := hT.e.lt; have fe := hT.e.frozen
    have cn := hT.n.cell; have ln := hT.n.lt; have fn := hT.n.frozen
    have ck := hT.k.cell; have lk := hT.k.lt; have fk := hT.k.frozen
    have hz : ∀ w, (zeroValue 61).run Try.prog w = .ok (.int .u64 0) w := fun w => Try.zeroValue61 w
    have hlk : ∀ g : GW W.heap.size W, (Instr.lookup 77 (.map (some mb)) (.agg #[.int .i64 q.1, .int .i64 q.2]) false).run Try.prog g.w = .ok (.int .u64 (atM x q : Int)) g.w := fun g => by
      have h1 : MapIs g.w mb placeV m := hM.of_heap (g.h.block mb hM.lt)
      have h2 := h1.lookup placeKeys Try.underlying77 hz q
      rw [HQ.out q] at h2
      exact h2
    have hsv := fun g : GW W.heap.size W => serves_calls bf a cap x (atM x q &&& s) g.w hv hlt _ _ (hF.below (Nat.le_refl _) g.h) (HPS.out.below (Nat.le_refl _) (hT.up.trans (g.h.mono hT.up.size)))
    have HSV := Lib.hid hsv; have HSN := Lib.hid hsn; have HU := Lib.hid hT.up
    clear hsv hsn hT hF hM hB8 hr hlen
    generalize hsb : servesB x (atM x q &&& s) = sb at *
    clear hsb
    generalize atM x q = qq at *
    cases sb with
    | true =>
      gi_wp2
      refine GW.regionR W (by kernel_rfl) (by kernel_rfl) (by kernel_rfl) (Up.refl _) ?_
      repeat (go_big_quiet_step ((go_at_call 37; exact GW.call (Nat.le_refl _) (HSV.out _))))
      refine wpQuiet_nil ?_
      rintro _ ⟨g, rfl⟩
      gi_wp2
      have h := MInv.own w bf w1.heap.size mb m a cap x s w2.heap.size hwle hml pre W g.w none HI.out g.grown (fun r e => by cases e)
      refine ⟨g.keeps _, g.kpG HU.out.size, ?_⟩
      have e1 : missL x s (pre ++ [q]) = missL x s pre := HSN.out
      exact ⟨by rw [e1]; exact h.t, h.f, h.m, h.b⟩
    | false =>
      have hbx : w1.heap.size + 1 ≠ w.heap.size + 1 + 1 ∧ w1.heap.size + 1 ≠ w.heap.size + 1 + 1 + 1 ∧ w1.heap.size + 1 ≠ w.heap.size + 1 + 1 + 1 + 1 := by omega
      cases hmm : missL x s pre with
      | nil =>
        rw [hmm] at HSN ck hml2
        simp only [List.length_nil] at ck
        have HMM := Lib.hid hmm; clear hmm
        gi_wp2
        refine GW.regionR W (by kernel_rfl) (by kernel_rfl) (by kernel_rfl) (Up.refl _) ?_
        repeat (go_big_quiet_step ((go_at_call 37; exact GW.call (Nat.le_refl _) (HSV.out _))))
        refine wpQuiet_nil ?_
        rintro _ ⟨g, rfl⟩
        have h := MInv.own w bf w1.heap.size mb m a cap x s w2.heap.size hwle hml pre W g.w none HI.out g.grown (fun r e => by cases e)
        have HH := Lib.hid h
        have ge := h.t.e.cell; have gfe := h.t.e.frozen
        have gn := h.t.n.cell; have gfn := h.t.n.frozen
        have gk := h.t.k.cell; have gfk := h.t.k.frozen
        have g1 : g.w.cell? ⟨b, 0, none⟩ = some (.int .i64 q.1) := cell_kept q1 g.grown (fun r e => by cases e)
        have g2 : g.w.cell? ⟨b, 1, none⟩ = some (.int .i64 q.2) := cell_kept q2 g.grown (fun r e => by cases e)
        have hne2 : b ≠ w.heap.size + 1 + 1 := by omega
        have hne3 : b ≠ w.heap.size + 1 + 1 + 1 := by omega
        rw [HMM.out] at gk
        simp only [List.length_nil] at gk
        clear h ce cn ck fe fn fk
        have HG := Lib.hid g.grown; have HKG := Lib.hid (g.kpG (b := w1.heap.size + 1) (f := bf) HU.out.size)
        have hw3 : w2.heap.size ≤ w2.heap.size := Nat.le_refl _
        have hB3 : w.heap.size + 1 + 1 + 1 + 1 + 1 < w2.heap.size := by have := HT2.out.er.lt; exact this
        generalize hgw : g.w = W3 at *
        have hfin0 : ∀ act : Act, ownPostG w2.heap.size (KpG w.heap.size (w1.heap.size + 1) bf) (fun pre W => MInv w bf w1.heap.size mb m a cap x s pre W) (fun _ _ _ => False) (pre ++ [q]) W .normal act (((W3.setCell ⟨w.heap.size + 1 + 1, 0, none⟩ (.int .i64 q.1)).setCell ⟨w.heap.size + 1 + 1 + 1, 0, none⟩ (.int .i64 q.2)).setCell ⟨w.heap.size + 1 + 1 + 1 + 1, 0, none⟩ (.int .i64 1)).drew := by
          intro act
          have hfin := HH.out.first HMM.out (q := q) HSN.out
          have hk := (((KeepsFrom.of_grownBy (B := w2.heap.size) HG.out (fun j e => by cases e)).trans (KeepsFrom.of_grownBy (grownBy_setCell' W3 (w.heap.size + 1 + 1) (.int .i64 q.1)) (fun j e => by cases e; omega))).trans (KeepsFrom.of_grownBy (grownBy_setCell' _ (w.heap.size + 1 + 1 + 1) (.int .i64 q.2)) (fun j e => by cases e; omega))).trans (KeepsFrom.of_grownBy (grownBy_setCell' _ (w.heap.size + 1 + 1 + 1 + 1) (.int .i64 1)) (fun j e => by cases e; omega))
          have hkp := kpG_t (kpG_t (kpG_t HKG.out (kpG_set (W := W3) (.int .i64 q.1) (show w.heap.size ≤ w.heap.size + 1 + 1 by omega) hbx.1 (field_ne HH.out.f HH.out.t.e))) (kpG_set (.int .i64 q.2) (show w.heap.size ≤ w.heap.size + 1 + 1 + 1 by omega) hbx.2.1 (field_ne HH.out.f HH.out.t.n))) (kpG_set (.int .i64 1) (show w.heap.size ≤ w.heap.size + 1 + 1 + 1 + 1 by omega) hbx.2.2 (field_ne HH.out.f HH.out.t.k))
          generalize ((W3.setCell ⟨w.heap.size + 1 + 1, 0, none⟩ (.int .i64 q.1)).setCell ⟨w.heap.size + 1 + 1 + 1, 0, none⟩ (.int .i64 q.2)).setCell ⟨w.heap.size + 1 + 1 + 1 + 1, 0, none⟩ (.int .i64 1) = W4 at *
          have g4 : GW W4.heap.size W4 := ⟨W4.drew, Up.drew (Up.refl _)⟩
          have hg4 : W4.grownBy W4.drew none := GW.grown ⟨W4.drew, Up.drew (Up.refl _)⟩
          exact ⟨hk.trans (KeepsFrom.of_grownBy hg4 (fun j e => by cases e)), kpG_t hkp (GW.kpG ⟨W4.drew, Up.drew (Up.refl _)⟩ hfin.t.up.size), MInv.own w bf w1.heap.size mb m a cap x s w2.heap.size hwle hml _ W4 _ none hfin hg4 (fun r e => by cases e)⟩
        have HFIN := Lib.hid hfin0; clear hfin0
        gi_wp2
        gi_region
        all_goals gi_wp2
        all_goals exact HFIN.out _
      | cons y ys =>
        have hne0 : (((missL x s pre).length : Int) == 0) = false := by
          have : 0 < (missL x s pre).length := by rw [hmm]; simp
          simp only [beq_eq_false_iff_ne, ne_eq]; omega
        have hnn : missL x s pre ≠ [] := by rw [hmm]; simp
        have HNN := Lib.hid hnn
        clear hmm hnn
        gi_wp2
        refine GW.regionR W (by kernel_rfl) (by kernel_rfl) (by kernel_rfl) (Up.refl _) ?_
        repeat (go_big_quiet_step ((go_at_call 37; exact GW.call (Nat.le_refl _) (HSV.out _))))
        refine wpQuiet_nil ?_
        rintro _ ⟨g, rfl⟩
        gi_wp2
        have h := MInv.own w bf w1.heap.size mb m a cap x s w2.heap.size hwle hml pre W g.w none HI.out g.grown (fun r e => by cases e)
        refine ⟨(g.keeps _).trans (KeepsFrom.of_grownBy (grownBy_setCell' g.w (w.heap.size + 1 + 1 + 1 + 1) _) (fun j e => by cases e; omega)), kpG_t (g.kpG HU.out.size) (kpG_set _ (show w.heap.size ≤ w.heap.size + 1 + 1 + 1 + 1 by omega) hbx.2.2 (field_ne h.f h.t.k)), h.later HNN.out HSN.out⟩
  case done =>
    rintro D ys W hD rfl hI hK
    have hT := hI.t
    have hB3 : w.heap.size + 1 + 1 + 1 + 1 + 1 < w2.heap.size := HT2.out.er.lt
    have hD2 : w.heap.size + 1 + 1 + 1 + 1 + 1 < D := by omega
    have le := hT.e.lt; have ln := hT.n.lt; have lk := hT.k.lt; have lr := hT.er.lt
    have ce := hT.e.cell; have cn := hT.n.cell; have ck := hT.k.cell; have cr := hT.er.cell
    have fe := hT.e.frozen; have fn := hT.n.frozen; have fk := hT.k.frozen; have fr := hT.er.frozen
    have HK := Lib.hid hK; have HTT := Lib.hid hT
    clear hI hK hT
    have hset : ∀ (V : World) b u, b ≠ D → V.heap[D]? = some (.deferred (some [])) → (V.setCell ⟨b, 0, none⟩ u).heap[D]? = some (.deferred (some [])) := fun V b u hb h => (Below.heap_setCell _ _ _ _ (fun e => hb e.symm)).trans h
    have HSET := Lib.hid hset; clear hset
    cases hmm : missL x s (placesL x) with
    | nil =>
      have hr := HR0.out hmm
      rw [hmm] at ce cn ck HTT
      simp only [firstP, List.headD_nil, List.length_nil] at ce cn ck
      have HR := Lib.hid hr; clear hr hmm
      gi_wp2
      have t1 := (((HTT.out.setE 0).setN 0).setK 0).setR 4
      refine top6_leave _ t1 (HSET.out _ _ _ (by omega) (HSET.out _ _ _ (by omega) (HSET.out _ _ _ (by omega) (HSET.out _ _ _ (by omega) HK.out)))) hD2 rfl rfl rfl rfl HR.out
    | cons y ys =>
      have hnn : missL x s (placesL x) ≠ [] := by rw [hmm]; simp
      have hr := HR1.out hnn
      have hne0 : (((missL x s (placesL x)).length : Int) == 0) = false := by
        have : 0 < (missL x s (placesL x)).length := by rw [hmm]; simp
        simp only [beq_eq_false_iff_ne, ne_eq]; omega
      have HR := Lib.hid hr; clear hr hmm hnn
      have hfin0 : ∀ tm : Array Value, tm[4]?.getD undef = .pointer (some ⟨w.heap.size + 1 + 1, 0, none⟩) → tm[5]?.getD undef = .pointer (some ⟨w.heap.size + 1 + 1 + 1, 0, none⟩) → tm[6]?.getD undef = .pointer (some ⟨w.heap.size + 1 + 1 + 1 + 1, 0, none⟩) → tm[7]?.getD undef = .pointer (some ⟨w.heap.size + 1 + 1 + 1 + 1 + 1, 0, none⟩) → _ := fun tm h4 h5 h6 h7 =>
        top6_leave (D := D) (r1 := r1) (r2 := r2) (r3 := r3) (r4 := r4) tm (((((HTT.out.below (Up.drew (Up.refl W))).setE (firstP (missL x s (placesL x))).1).setN (firstP (missL x s (placesL x))).2).setK ((missL x s (placesL x)).length : Int)).setR 0) (HSET.out _ _ _ (by omega) (HSET.out _ _ _ (by omega) (HSET.out _ _ _ (by omega) (HSET.out _ _ _ (by omega) HK.out)))) hD2 h4 h5 h6 h7 HR.out
      have HFIN := Lib.hid hfin0; clear hfin0
      gi_wp2
      gi_region
      all_goals gi_wp2
      all_goals exact HFIN.out _ rfl rfl rfl rfl
  case stop =>
    rintro D c pre W _ _ h _
    exact h.elim

end Go.Proofs.Ytlfemkelnllmnaa
