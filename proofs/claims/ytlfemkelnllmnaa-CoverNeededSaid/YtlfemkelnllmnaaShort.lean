/- cover.Shortest. -/
import Derived.Test.YtlfemkelnllmnaaTold
set_option linter.all false
set_option linter.unusedVariables false
set_option linter.unusedSimpArgs false
namespace Go.Proofs.Ytlfemkelnllmnaa
open Go.RowKit

/-- The field as cells. -/
def fldL (a : Option Addr) (cap : Nat) (x : Fld) : List Value := [.slice a x.ps.length cap, .int .i64 x.e0, .int .i64 x.e1, .int .i64 x.n0, .int .i64 x.n1, .int .i64 x.d0, .int .i64 x.d1, .int .i64 x.depth, .int .i64 x.times, .int .i64 x.gap]
/-- The world of an exported function of cover at its first call: the field and the error number in boxes. -/
def topW (w : World) (a : Option Addr) (cap : Nat) (x : Fld) : World := (w.alloc (.cells (fldL a cap x).toArray 26)).alloc (.cells #[.int .i64 0] 30)
theorem topW_size (w : World) (a : Option Addr) (cap : Nat) (x : Fld) : (topW w a cap x).heap.size = w.heap.size + 1 + 1 := by simp [topW]
theorem topW_up (w : World) (a : Option Addr) (cap : Nat) (x : Fld) : Below w.heap.size w (topW w a cap x) := Up.alloc _ (Up.alloc _ (Up.refl _))
theorem topW_box (w : World) (a : Option Addr) (cap : Nat) (x : Fld) : Boxed (topW w a cap x) (w.heap.size + 1) 30 (.int .i64 0) := by
  unfold topW; simpa using Boxed.new (w.alloc (.cells (fldL a cap x).toArray 26)) 30 (.int .i64 0)
theorem boxed_below {w w' : World} {b T : Nat} {v : Value} {B : Nat} (h : Boxed w b T v) (hB : w.heap.size ≤ B) (hb : Below B w w') : Boxed w' b T v := (hb.block _ (Nat.lt_of_lt_of_le h.lt hB)).trans h
theorem openP_calls (a : Option Addr) (cap : Nat) (x : Fld) (w W : World) (hs : SlW 6 skyRow w (.slice a x.ps.length cap) x.ps) (hv : validB x = true) (h : Below w.heap.size w W) :
    Calls Try.prog 27 #[fldV a cap x] W fun e w' => ∃ bf, e = .returned (.pointer (some ⟨bf, 0, none⟩)) ∧ FieldP w' bf a cap x ∧ Below W.heap.size W w' :=
  (open_good a cap x W (hs.below (Nat.le_refl _) h) hv).mono fun e w' ⟨bf, h1, h2, h3, h4⟩ => ⟨bf, h1, ⟨h3, (hs.below (Nat.le_refl _) h).below (Nat.le_refl _) h4⟩, h4⟩

/-- What Shortest says. -/
def shortestL (x : Fld) : Option (Fin 4096) := (setsF x).find? fun s => listB x s.val
def shortestV (x : Fld) : Int × Int := if validB x then (match shortestL x with | some s => ((s.val : Int), 0) | none => (0, 4)) else (0, 1)

set_option maxHeartbeats 1000000 in
theorem shortest_calls (a : Option Addr) (cap : Nat) (x : Fld) (w : World) (hs : SlW 6 skyRow w (.slice a x.ps.length cap) x.ps) :
    Calls Try.prog 10 #[fldV a cap x] w fun e w' => e = .returned (.tuple #[.int .i64 (shortestV x).1, .int .i64 (shortestV x).2]) ∧ Below w.heap.size w w' := by
  by_cases hv : validB x = true
  · have hE : firstE x = (match shortestL x with | some s => .returned (.int .u64 ((s.val : Nat) : Int)) | none => .panicked [{ v := failure 4, recovered := false }]) := rfl
    have hV : shortestV x = (match shortestL x with | some s => ((s.val : Int), 0) | none => (0, 4)) := by unfold shortestV; rw [if_pos hv]
    have HO := Lib.hid (openP_calls a cap x w _ hs hv (topW_up w a cap x))
    clear hs
    have hup0 := topW_up w a cap x
    have hbx0 := topW_box w a cap x
    have hsz0 := topW_size w a cap x
    have htop : (w.alloc (.cells #[.slice a x.ps.length cap, .int .i64 x.e0, .int .i64 x.e1, .int .i64 x.n0, .int .i64 x.n1, .int .i64 x.d0, .int .i64 x.d1, .int .i64 x.depth, .int .i64 x.times, .int .i64 x.gap] 26)).alloc (.cells #[.int .i64 0] 30) = topW w a cap x := rfl
    have HT := Lib.hid htop; have HU0 := Lib.hid hup0; have HB0 := Lib.hid hbx0; have HS0 := Lib.hid hsz0
    clear htop hup0 hbx0 hsz0
    unfold fldV at *
    have HE := Lib.hid hE; have HV := Lib.hid hV; clear hE hV
    go_enter_defers Try.func10, Try.ntmps10
    go_wp2_with fail
    rw [HT.out]
    generalize topW w a cap x = w0 at *
    refine HO.out.mono ?_
    rintro e w1 ⟨bf, rfl, hF, hb⟩
    have hbx1 := boxed_below HB0.out (Nat.le_refl _) hb
    have hup1 := HU0.out.trans (hb.mono HU0.out.size)
    have HF := Lib.hid hF; have HB := Lib.hid hbx1; have HU := Lib.hid hup1
    clear hF hbx1 hup1 hb
    go_wp2_with (first
      | (go_at_call 29; refine (sets_calls _ _).mono ?_; rintro e w' ⟨rfl, rfl⟩)
      | fail)
    have hFl := HF.out.below (Nat.le_refl _) (Up.alloc (.cells #[.pointer (some ⟨bf, 0, none⟩)] 58) (Up.refl w1))
    refine (isList_calls bf a cap x _ hv hFl).mono ?_
    rintro e w2 ⟨bk, bl, mb, rfl, hL, hb⟩
    have hbx2 : Boxed w2 w1.heap.size 58 (.pointer (some ⟨bf, 0, none⟩)) := boxed_below (Boxed.new w1 _ _) (Nat.le_refl _) hb
    have hbw : Boxed w2 (w.heap.size + 1) 30 (.int .i64 0) := boxed_below (HB.out.alloc _) (Nat.le_refl _) hb
    have hup2 : Below w.heap.size w w2 := (HU.out.alloc HU.out.size _).trans (hb.mono (by simp; have := HU.out.size; omega))
    have hfirst := first_calls w1.heap.size bk bl bf a cap x mb w2 hv hbx2.lt hbx2.cell hL
    have HFI := Lib.hid hfirst; have HB2 := Lib.hid hbw; have HU2 := Lib.hid hup2
    clear hFl hL hb hbx2 hbw hup2 hfirst
    unfold listF at *
    go_wp2_with fail
    refine HFI.out.mono ?_
    rintro e w3 ⟨rfl, hb⟩
    have hbx3 := boxed_below HB2.out (Nat.le_refl _) hb
    have hup3 := HU2.out.trans (hb.mono HU2.out.size)
    have hc3 := hbx3.cell; have hf3 := hbx3.frozen; have hl3 := hbx3.lt
    have HU3 := Lib.hid hup3; have HB3 := Lib.hid hbx3
    clear hb hbx3 hup3
    rw [HE.out]
    cases hf : shortestL x with
    | none =>
      have hv2 := HV.out; rw [hf] at hv2
      have HV2 := Lib.hid hv2; clear hf hv2
      dsimp only
      go_wp2
      refine leaves_cons (f := 26) (args := #[.pointer (some ⟨w.heap.size + 1, 0, none⟩)]) (by simp) (by simp [go_sem]) ?_
      refine (told_panic _ _ _ _ hc3 hf3).mono ?_
      rintro e u' w'' ⟨rfl, rfl, rfl⟩
      rw [HV2.out]
      have h4 := ((HB3.out.set (.int .i64 4)).alloc (.cells #[.int .i64 4] 95)).cell
      simp [Leaves, settle, results, Try.results10, go_sem, h4]
      exact (HU3.out.setCell (by simp) _).alloc (by simpa using HU3.out.size) _
    | some s =>
      have hs := s.isLt
      have hv2 := HV.out; rw [hf] at hv2
      have HV2 := Lib.hid hv2; clear hf hv2
      dsimp only
      go_wp2
      refine leaves_cons (f := 26) (args := #[.pointer (some ⟨w.heap.size + 1, 0, none⟩)]) (by simp) (by simp [go_sem]) ?_
      refine (told_idle _ _).mono ?_
      rintro e u' w'' ⟨rfl, rfl, rfl⟩
      rw [HV2.out]
      have h4 := (HB3.out.set (.int .i64 0)).cell
      simp [Leaves, settle, results, Try.results10, go_sem, h4]
      exact HU3.out.setCell (by simp) _
  · have hV : shortestV x = (0, 1) := by unfold shortestV; rw [if_neg hv]
    have HO := Lib.hid (open_bad a cap x (topW w a cap x) (hs.below (Nat.le_refl _) (topW_up w a cap x)) (by simpa using hv))
    clear hs
    have HU0 := Lib.hid (topW_up w a cap x)
    have HB0 := Lib.hid (topW_box w a cap x)
    have htop : (w.alloc (.cells #[.slice a x.ps.length cap, .int .i64 x.e0, .int .i64 x.e1, .int .i64 x.n0, .int .i64 x.n1, .int .i64 x.d0, .int .i64 x.d1, .int .i64 x.depth, .int .i64 x.times, .int .i64 x.gap] 26)).alloc (.cells #[.int .i64 0] 30) = topW w a cap x := rfl
    have HT := Lib.hid htop
    clear htop
    unfold fldV at *
    have HV := Lib.hid hV; clear hV
    go_enter_defers Try.func10, Try.ntmps10
    go_wp2_with fail
    rw [HT.out]
    generalize topW w a cap x = w0 at *
    refine HO.out.mono ?_
    rintro e w3 ⟨rfl, hb⟩
    have hbx3 := boxed_below HB0.out (Nat.le_refl _) hb
    have hup3 := HU0.out.trans (hb.mono HU0.out.size)
    have hc3 := hbx3.cell; have hf3 := hbx3.frozen; have hl3 := hbx3.lt
    have HU3 := Lib.hid hup3; have HB3 := Lib.hid hbx3
    clear hb hbx3 hup3
    go_wp2
    refine leaves_cons (f := 26) (args := #[.pointer (some ⟨w.heap.size + 1, 0, none⟩)]) (by simp) (by simp [go_sem]) ?_
    refine (told_panic _ _ _ _ hc3 hf3).mono ?_
    rintro e u' w'' ⟨rfl, rfl, rfl⟩
    rw [HV.out]
    have h4 := ((HB3.out.set (.int .i64 1)).alloc (.cells #[.int .i64 1] 95)).cell
    simp [Leaves, settle, results, Try.results10, go_sem, h4]
    exact (HU3.out.setCell (by simp) _).alloc (by simpa using HU3.out.size) _

end Go.Proofs.Ytlfemkelnllmnaa
