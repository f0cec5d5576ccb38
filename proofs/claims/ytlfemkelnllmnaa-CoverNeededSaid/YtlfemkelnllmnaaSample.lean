/- The laws of chapter 10: the sample. -/
import Derived.Test.YtlfemkelnllmnaaLaw10
set_option linter.all false
set_option linter.unusedVariables false
set_option linter.unusedSimpArgs false
namespace Go.Proofs.Ytlfemkelnllmnaa
open Go.RowKit

/-- The zero field in a box, as the result of a function. -/
structure ZBox (W : World) (b : Nat) : Prop where
  lt : b < W.heap.size
  c0 : W.cell? ⟨b, 0, none⟩ = some (.slice none 0 0)
  c : ∀ i, 1 ≤ i → i < 10 → W.cell? ⟨b, i, none⟩ = some (.int .i64 0)
  f : ∀ i, i < 10 → W.frozen? ⟨b, i, none⟩ = false
theorem ZBox.below {W W' : World} {b : Nat} (h : ZBox W b) {B : Nat} (hB : b < B) (hb : Below B W W') : ZBox W' b :=
  ⟨Nat.lt_of_lt_of_le h.lt hb.size, (hb.cell (p := ⟨b, 0, none⟩) hB).trans h.c0, fun i h1 h2 => (hb.cell (p := ⟨b, i, none⟩) hB).trans (h.c i h1 h2), fun i h2 => (hb.frozen (p := ⟨b, i, none⟩) hB).trans (h.f i h2)⟩
theorem zbox_new (w : World) : ZBox (w.alloc (.cells #[.slice none 0 0, .int .i64 0, .int .i64 0, .int .i64 0, .int .i64 0, .int .i64 0, .int .i64 0, .int .i64 0, .int .i64 0, .int .i64 0] 26)) w.heap.size := by
  refine ⟨by simp, by go_simp, ?_, ?_⟩
  · intro i h1 h2
    have : i = 1 ∨ i = 2 ∨ i = 3 ∨ i = 4 ∨ i = 5 ∨ i = 6 ∨ i = 7 ∨ i = 8 ∨ i = 9 := by omega
    rcases this with rfl | rfl | rfl | rfl | rfl | rfl | rfl | rfl | rfl <;> go_simp
  · intro i h2
    have : i = 0 ∨ i = 1 ∨ i = 2 ∨ i = 3 ∨ i = 4 ∨ i = 5 ∨ i = 6 ∨ i = 7 ∨ i = 8 ∨ i = 9 := by omega
    rcases this with rfl | rfl | rfl | rfl | rfl | rfl | rfl | rfl | rfl | rfl <;> go_simp
/-- The sample's plates in a new block. -/
theorem smp_row (W : World) : SlW 6 skyRow (W.alloc (.cells #[.int .i64 0, .int .i64 1, .int .i64 0, .int .i64 2, .int .i64 120, .int .i64 12, .int .i64 1, .int .i64 2, .int .i64 0, .int .i64 0, .int .i64 150, .int .i64 15, .int .i64 2, .int .i64 3, .int .i64 0, .int .i64 0, .int .i64 250, .int .i64 10, .int .i64 0, .int .i64 3, .int .i64 0, .int .i64 0, .int .i64 99, .int .i64 20, .int .i64 3, .int .i64 5, .int .i64 0, .int .i64 1, .int .i64 300, .int .i64 11] 48)) (.slice (some ⟨W.heap.size, 0, none⟩) smp.ps.length 5) smp.ps := by
  refine ⟨_, _, rfl, by decide, .inr ⟨W.heap.size, 0, rfl, by simp, ?_⟩⟩
  intro k hk j hj
  have hk5 : k < 5 := hk
  have hj6 : j < 6 := hj
  have hkk : k = 0 ∨ k = 1 ∨ k = 2 ∨ k = 3 ∨ k = 4 := by omega
  have hjj : j = 0 ∨ j = 1 ∨ j = 2 ∨ j = 3 ∨ j = 4 ∨ j = 5 := by omega
  rcases hkk with rfl | rfl | rfl | rfl | rfl <;> rcases hjj with rfl | rfl | rfl | rfl | rfl | rfl <;> (simp only [smp, skyRow]; go_simp)

set_option maxHeartbeats 4000000 in
theorem sample_calls (w : World) :
    Calls Try.prog 24 #[] w fun e w' => ∃ b cap, e = .returned (fldV (some ⟨b, 0, none⟩) cap smp) ∧ SlW 6 skyRow w' (.slice (some ⟨b, 0, none⟩) smp.ps.length cap) smp.ps ∧ Below w.heap.size w w' := by
  have hz := zbox_new w
  have hu : Below w.heap.size w (w.alloc (.cells #[.slice none 0 0, .int .i64 0, .int .i64 0, .int .i64 0, .int .i64 0, .int .i64 0, .int .i64 0, .int .i64 0, .int .i64 0, .int .i64 0] 26)) := Up.alloc _ (Up.refl _)
  have HZ := Lib.hid hz; have HU := Lib.hid hu; clear hz hu
  go_enter Try.func24, Try.ntmps24
  go_wp2_with fail
  generalize w.alloc (.cells #[.slice none 0 0, .int .i64 0, .int .i64 0, .int .i64 0, .int .i64 0, .int .i64 0, .int .i64 0, .int .i64 0, .int .i64 0, .int .i64 0] 26) = w0 at *
  refine (sky_calls _ _ _ _ _ _ _).mono ?_
  rintro e w' ⟨rfl, hb⟩
  obtain ⟨g, rfl⟩ := GW.of hb
  clear hb
  go_upto_region 2 with (go_at_call 46; refine (sky_calls _ _ _ _ _ _ _).mono ?_; rintro e w' ⟨rfl, hb⟩; obtain ⟨g, rfl⟩ := GW.of (g.h.trans (hb.mono g.h.size)); clear hb)
  have hs := smp_row g.w
  have hz := (HZ.out.below HZ.out.lt g.h).below (B := g.w.heap.size) (Nat.lt_of_lt_of_le HZ.out.lt g.h.size) (Up.alloc (.cells #[.int .i64 0, .int .i64 1, .int .i64 0, .int .i64 2, .int .i64 120, .int .i64 12, .int .i64 1, .int .i64 2, .int .i64 0, .int .i64 0, .int .i64 150, .int .i64 15, .int .i64 2, .int .i64 3, .int .i64 0, .int .i64 0, .int .i64 250, .int .i64 10, .int .i64 0, .int .i64 3, .int .i64 0, .int .i64 0, .int .i64 99, .int .i64 20, .int .i64 3, .int .i64 5, .int .i64 0, .int .i64 1, .int .i64 300, .int .i64 11] 48) (Up.refl g.w))
  have hu : Below w.heap.size w (g.w.alloc (.cells #[.int .i64 0, .int .i64 1, .int .i64 0, .int .i64 2, .int .i64 120, .int .i64 12, .int .i64 1, .int .i64 2, .int .i64 0, .int .i64 0, .int .i64 150, .int .i64 15, .int .i64 2, .int .i64 3, .int .i64 0, .int .i64 0, .int .i64 250, .int .i64 10, .int .i64 0, .int .i64 3, .int .i64 0, .int .i64 0, .int .i64 99, .int .i64 20, .int .i64 3, .int .i64 5, .int .i64 0, .int .i64 1, .int .i64 300, .int .i64 11] 48)) := Up.alloc _ (Up.gw g HU.out)
  have HS := Lib.hid hs; have HZ2 := Lib.hid hz; have HU2 := Lib.hid hu
  clear hs hz hu
  have hps : smp.ps.length = 5 := rfl
  generalize hwq : g.w.alloc _ = wq at *
  have HWQ := Lib.hid hwq; clear hwq
  have hbq : w.heap.size < g.w.heap.size := Nat.lt_of_lt_of_le HZ.out.lt g.h.size
  generalize g.w.heap.size = bq at *
  go_wp2_with fail
  refine (span_calls _ _ _).mono ?_
  rintro e w' ⟨rfl, hb⟩
  obtain ⟨g1, rfl⟩ := GW.of hb
  clear hb
  go_wp2_with fail
  refine (span_calls _ _ _).mono ?_
  rintro e w' ⟨rfl, hb⟩
  obtain ⟨g2, rfl⟩ := GW.of (g1.h.trans (hb.mono g1.h.size))
  clear hb
  have hz3 := HZ2.out.below HZ2.out.lt g2.h
  have hs3 := HS.out.below (Nat.le_refl _) g2.h
  have hu3 : Below w.heap.size w g2.w := HU2.out.trans (g2.h.mono HU2.out.size)
  have z0 := hz3.c0
  have z1 := hz3.c 1 (by omega) (by omega); have z2 := hz3.c 2 (by omega) (by omega); have z3 := hz3.c 3 (by omega) (by omega); have z4 := hz3.c 4 (by omega) (by omega); have z5 := hz3.c 5 (by omega) (by omega); have z6 := hz3.c 6 (by omega) (by omega); have z7 := hz3.c 7 (by omega) (by omega); have z8 := hz3.c 8 (by omega) (by omega); have z9 := hz3.c 9 (by omega) (by omega)
  have f0 := hz3.f 0 (by omega); have f1 := hz3.f 1 (by omega); have f2 := hz3.f 2 (by omega); have f3 := hz3.f 3 (by omega); have f4 := hz3.f 4 (by omega); have f5 := hz3.f 5 (by omega); have f6 := hz3.f 6 (by omega); have f7 := hz3.f 7 (by omega); have f8 := hz3.f 8 (by omega); have f9 := hz3.f 9 (by omega)
  have lz := hz3.lt
  have HS3 := Lib.hid hs3; have HU3 := Lib.hid hu3
  clear hz3 hs3 hu3
  generalize g2.w = w3 at *
  go_wp2_with fail
  change bodyPost _ _ _ _ _ (w3.setCells w.heap.size 0 [.slice (some ⟨bq, 0, none⟩) 5 5, .int .i64 0, .int .i64 3, .int .i64 0, .int .i64 0, .int .i64 100, .int .i64 300, .int .i64 10, .int .i64 1, .int .i64 0])
  have hsome : ∀ j, j < ([.slice (some ⟨bq, 0, none⟩) 5 5, .int .i64 0, .int .i64 3, .int .i64 0, .int .i64 0, .int .i64 100, .int .i64 300, .int .i64 10, .int .i64 1, .int .i64 0] : List Value).length → (w3.cell? ⟨w.heap.size, 0 + j, none⟩).isSome = true := by
    intro j hj
    have hj2 : j < 10 := hj
    have : j = 0 ∨ j = 1 ∨ j = 2 ∨ j = 3 ∨ j = 4 ∨ j = 5 ∨ j = 6 ∨ j = 7 ∨ j = 8 ∨ j = 9 := by omega
    rcases this with rfl | rfl | rfl | rfl | rfl | rfl | rfl | rfl | rfl | rfl <;> simp [z0, z1, z2, z3, z4, z5, z6, z7, z8, z9]
  have hin := World.cell?_setCells_in w.heap.size [.slice (some ⟨bq, 0, none⟩) 5 5, .int .i64 0, .int .i64 3, .int .i64 0, .int .i64 0, .int .i64 100, .int .i64 300, .int .i64 10, .int .i64 1, .int .i64 0] 0 w3 hsome
  have k0 := hin 0 (by simp); have k1 := hin 1 (by simp); have k2 := hin 2 (by simp); have k3 := hin 3 (by simp); have k4 := hin 4 (by simp); have k5 := hin 5 (by simp); have k6 := hin 6 (by simp); have k7 := hin 7 (by simp); have k8 := hin 8 (by simp); have k9 := hin 9 (by simp)
  simp only [Nat.zero_add, List.getElem_cons_zero, List.getElem_cons_succ] at k0 k1 k2 k3 k4 k5 k6 k7 k8 k9
  have hup := setCells_below (Nat.le_refl w.heap.size) [.slice (some ⟨bq, 0, none⟩) 5 5, .int .i64 0, .int .i64 3, .int .i64 0, .int .i64 0, .int .i64 100, .int .i64 300, .int .i64 10, .int .i64 1, .int .i64 0] 0 w3 HU3.out
  have hout := fun q h => World.cell?_setCells_out w.heap.size [.slice (some ⟨bq, 0, none⟩) 5 5, .int .i64 0, .int .i64 3, .int .i64 0, .int .i64 0, .int .i64 100, .int .i64 300, .int .i64 10, .int .i64 1, .int .i64 0] 0 w3 q h
  have hsz : w3.heap.size ≤ (w3.setCells w.heap.size 0 [.slice (some ⟨bq, 0, none⟩) 5 5, .int .i64 0, .int .i64 3, .int .i64 0, .int .i64 0, .int .i64 100, .int .i64 300, .int .i64 10, .int .i64 1, .int .i64 0]).heap.size := by simp [World.setCells]
  clear hsome hin z0 z1 z2 z3 z4 z5 z6 z7 z8 z9
  generalize w3.setCells w.heap.size 0 _ = w4 at *
  refine bodyPost_ret (v := .agg #[.slice (some ⟨bq, 0, none⟩) 5 5, .int .i64 0, .int .i64 3, .int .i64 0, .int .i64 0, .int .i64 100, .int .i64 300, .int .i64 10, .int .i64 1, .int .i64 0]) (by simp [results, Try.results24, go_sem, k0, k1, k2, k3, k4, k5, k6, k7, k8, k9]) rfl ?_
  refine ⟨bq, 5, rfl, ?_, hup⟩
  obtain ⟨a, cap, e, hm, hx⟩ := HS3.out
  cases e
  refine ⟨_, _, rfl, hm, hx.imp id ?_⟩
  rintro ⟨b, off, e, hb, hc⟩
  cases e
  exact ⟨bq, 0, rfl, Nat.lt_of_lt_of_le hb hsz, fun k hk j hj => (hout _ (fun e => absurd e (by show ¬ bq = w.heap.size; omega))).trans (hc k hk j hj)⟩

end Go.Proofs.Ytlfemkelnllmnaa
