/- cover.isField: what it returns. -/
import Derived.Test.YtlfemkelnllmnaaCover1
set_option linter.all false
set_option linter.unusedVariables false
set_option linter.unusedSimpArgs false
namespace Go.Proofs.Ytlfemkelnllmnaa
open Go.RowKit

theorem bad_enters (args : Array Value) (w : World) : (callFunc 62 args).run Try.prog w = .ok (.enter 62 args) w := by
  go_simp

set_option maxHeartbeats 2000000 in
set_option maxRecDepth 10000 in
theorem isField_calls (a : Option Addr) (cap : Nat) (x : Fld) (w : World) (hs : SlW 6 skyRow w (.slice a x.ps.length cap) x.ps) :
    Calls Try.prog 49 #[fldV a cap x] w fun e w' => e = .returned (.bool (validB x)) ∧ Below w.heap.size w w' := by
  have HS := Lib.hid hs; clear hs
  have HCF : Hid (∀ W, Below w.heap.size w W → Calls Try.prog 64 #[.slice a x.ps.length cap, .func (.func 62) #[] #[]] W fun e w' => e = .returned (.bool (x.ps.any badSkyB)) ∧ Below w.heap.size w w') :=
    fun W h => containsFuncSky a cap x.ps _ #[] badSkyB (Below w.heap.size w) W bad_enters (fun W h => HS.out.below (Nat.le_refl _) h) h (fun p _ W h => (badSky_calls p W).mono fun e W' ⟨he, hb⟩ => ⟨he, h.trans (hb.mono h.size)⟩)
  unfold fldV
  go_enter Try.func49, Try.ntmps49
  go_wp2_with (first | (go_at_call 63; refine (isSpan_calls _ _ _ _).mono ?_; rintro e _ ⟨rfl, hb⟩; first | (obtain ⟨_, rfl⟩ := GW.next hb (Nat.le_refl _)) | (obtain ⟨_, rfl⟩ := GW.of hb); clear hb) | (go_at_call 48; refine (within_calls _ _ _ _).mono ?_; rintro e _ ⟨rfl, rfl⟩))
  · refine (HCF.out _ ?_).mono ?_
    · repeat (first | exact Up.refl _ | refine Up.gw _ ?_ | refine Up.alloc _ ?_)
    rintro e w2 ⟨rfl, hb⟩
    go_wp2_with fail
    go_ret
    exact ⟨ret_bool (by simp [validB, skyB, numbersB, *]; omega), hb⟩
  all_goals (go_ret; exact ⟨ret_bool (by simp [validB, skyB, numbersB, *]; try omega), by repeat (first | exact Up.refl _ | refine Up.gw _ ?_ | refine Up.alloc _ ?_)⟩)

/-- A field that is looked at, in memory: block bf. -/
structure FieldC (w : World) (bf : Nat) (a : Option Addr) (cap : Nat) (x : Fld) (um mb : Nat) : Prop where
  lt : bf < w.heap.size
  c0 : w.cell? ⟨bf, 0, none⟩ = some (.slice a x.ps.length cap)
  c1 : w.cell? ⟨bf, 1, none⟩ = some (.int .i64 x.e0)
  c2 : w.cell? ⟨bf, 2, none⟩ = some (.int .i64 x.e1)
  c3 : w.cell? ⟨bf, 3, none⟩ = some (.int .i64 x.n0)
  c4 : w.cell? ⟨bf, 4, none⟩ = some (.int .i64 x.n1)
  c5 : w.cell? ⟨bf, 5, none⟩ = some (.int .i64 x.d0)
  c6 : w.cell? ⟨bf, 6, none⟩ = some (.int .i64 x.d1)
  c7 : w.cell? ⟨bf, 7, none⟩ = some (.int .i64 x.depth)
  c8 : w.cell? ⟨bf, 8, none⟩ = some (.int .i64 x.times)
  c9 : w.cell? ⟨bf, 9, none⟩ = some (.int .i64 x.gap)
  c10 : w.cell? ⟨bf, 10, none⟩ = some (.int .u64 (um : Int))
  c11 : w.cell? ⟨bf, 11, none⟩ = some (.map (some mb))

theorem FieldC.below {w w' : World} {bf : Nat} {a : Option Addr} {cap : Nat} {x : Fld} {um mb : Nat} (h : FieldC w bf a cap x um mb) {B : Nat} (hB : w.heap.size ≤ B) (hb : Below B w w') : FieldC w' bf a cap x um mb := by
  have hl := h.lt
  have hc : ∀ o, w'.cell? ⟨bf, o, none⟩ = w.cell? ⟨bf, o, none⟩ := fun o => hb.cell (p := ⟨bf, o, none⟩) (Nat.lt_of_lt_of_le hl hB)
  exact ⟨Nat.lt_of_lt_of_le hl hb.size, (hc _).trans h.c0, (hc _).trans h.c1, (hc _).trans h.c2, (hc _).trans h.c3, (hc _).trans h.c4, (hc _).trans h.c5, (hc _).trans h.c6, (hc _).trans h.c7, (hc _).trans h.c8, (hc _).trans h.c9, (hc _).trans h.c10, (hc _).trans h.c11⟩

set_option maxHeartbeats 1000000 in
theorem tests2_calls (bf : Nat) (a : Option Addr) (cap : Nat) (x : Fld) (um mb : Nat) (p : Sky) (w : World) (hf : FieldC w bf a cap x um mb) :
    Calls Try.prog 67 #[.pointer (some ⟨bf, 0, none⟩), .agg (skyRow p).toArray] w fun e w' => e = .returned (.bool (withinB p.day x.d0 x.d1)) ∧ Below w.heap.size w w' := by
  obtain ⟨hlt, c0, c1, c2, c3, c4, c5, c6, c7, c8, c9, c10, c11⟩ := hf
  simp only [skyRow]
  go_enter Try.func67, Try.ntmps67
  go_wp2_with fail
  refine GW.region _ (by kernel_rfl) (by kernel_rfl) (Up.refl _) ?_
  repeat (go_big_quiet_step ((go_at_call 48; exact GW.callSame (within_calls _ _ _ _))))
  refine wpQuiet_nil ?_
  rintro _ ⟨g, rfl⟩
  go_wp2
  go_ret
  exact ⟨rfl, Up.gw _ (Up.alloc _ (Up.refl _))⟩

end Go.Proofs.Ytlfemkelnllmnaa
