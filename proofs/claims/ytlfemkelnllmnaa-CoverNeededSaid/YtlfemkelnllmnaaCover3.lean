/- cover.tests and what open asks of a plate. -/
import Derived.Test.YtlfemkelnllmnaaCover2
set_option linter.all false
set_option linter.unusedVariables false
set_option linter.unusedSimpArgs false
namespace Go.Proofs.Ytlfemkelnllmnaa
open Go.RowKit

set_option maxHeartbeats 1000000 in
theorem tests3_calls (bf : Nat) (a : Option Addr) (cap : Nat) (x : Fld) (um mb : Nat) (p : Sky) (w : World) (hf : FieldC w bf a cap x um mb) :
    Calls Try.prog 68 #[.pointer (some ⟨bf, 0, none⟩), .agg (skyRow p).toArray] w fun e w' => e = .returned (.bool (decide (x.depth ≤ p.depth))) ∧ Below w.heap.size w w' := by
  obtain ⟨hlt, c0, c1, c2, c3, c4, c5, c6, c7, c8, c9, c10, c11⟩ := hf
  simp only [skyRow]
  go_enter Try.func68, Try.ntmps68
  go_wp2_with fail
  refine GW.region _ (by kernel_rfl) (by kernel_rfl) (Up.refl _) ?_
  repeat (go_big_quiet_step (fail))
  refine wpQuiet_nil ?_
  rintro _ ⟨g, rfl⟩
  go_wp2
  go_ret
  exact ⟨rfl, Up.gw _ (Up.alloc _ (Up.refl _))⟩

set_option maxHeartbeats 1000000 in
theorem meet_calls (a0 a1 b0 b1 : Int) (w : World) :
    Calls Try.prog 66 #[.agg #[.int .i64 a0, .int .i64 a1], .agg #[.int .i64 b0, .int .i64 b1]] w fun e w' => e = .returned (.bool (meetB a0 a1 b0 b1)) ∧ Below w.heap.size w w' := by
  have H : meetB a0 a1 b0 b1 = decide (imax a0 b0 ≤ imin a1 b1) := rfl
  have HH := Lib.hid H; clear H
  go_enter Try.func66, Try.ntmps66
  go_wp2
  all_goals (go_ret; exact ⟨ret_bool (by rw [HH.out]), Up.alloc _ (Up.alloc _ (Up.refl _))⟩)

theorem meet_as {a0 a1 b0 b1 : Int} {w : World} {b : Bool} (h : meetB a0 a1 b0 b1 = b) :
    Calls Try.prog 66 #[.agg #[.int .i64 a0, .int .i64 a1], .agg #[.int .i64 b0, .int .i64 b1]] w fun e w' => e = .returned (.bool b) ∧ Below w.heap.size w w' := by
  rw [← h]; exact meet_calls _ _ _ _ _

theorem meet_enters (args : Array Value) (w : World) : (callFunc 66 args).run Try.prog w = .ok (.enter 66 args) w := by
  go_simp

set_option maxHeartbeats 1000000 in
theorem tests4_calls (bf : Nat) (a : Option Addr) (cap : Nat) (x : Fld) (um mb : Nat) (p : Sky) (bm : Nat) (w : World) (hf : FieldC w bf a cap x um mb) (hbm : bm < w.heap.size) (hm : w.cell? ⟨bm, 0, none⟩ = some (.func (.func 66) #[] #[])) :
    Calls Try.prog 69 #[.pointer (some ⟨bf, 0, none⟩), .agg (skyRow p).toArray, .pointer (some ⟨bm, 0, none⟩)] w fun e w' => e = .returned (.bool (meetB x.e0 x.e1 p.e0 p.e1 && meetB x.n0 x.n1 p.n0 p.n1)) ∧ Below w.heap.size w w' := by
  obtain ⟨hlt, c0, c1, c2, c3, c4, c5, c6, c7, c8, c9, c10, c11⟩ := hf
  simp only [skyRow]
  generalize h1 : meetB x.e0 x.e1 p.e0 p.e1 = b1
  have H1 := Lib.hid h1; clear h1
  cases b1
  all_goals
    go_enter Try.func69, Try.ntmps69
    go_wp2_with fail
    refine GW.region _ (by kernel_rfl) (by kernel_rfl) (Up.refl _) ?_
    iterate 8 (go_big_quiet_step (fail))
    go_big_quiet_want
    go_big_quiet_op
    apply Exists.intro
    refine ⟨fun _ => ?_, ?_⟩
    · exact GW.call (by simp) (meet_as H1.out)
    go_big_quiet_on
    repeat (go_big_quiet_step ((exact GW.call (by simp) (meet_calls _ _ _ _ _))))
    refine wpQuiet_nil ?_
    rintro _ ⟨g, rfl⟩
    go_wp2
    go_ret
    exact ⟨by first | rfl | simp, Up.gw _ (Up.alloc _ (Up.refl _))⟩

set_option maxHeartbeats 1000000 in
theorem tests_calls (w : World) :
    Calls Try.prog 51 #[] w fun e w' => e = .returned (.slice (some ⟨w.heap.size + 1, 0, none⟩) 3 3) ∧
      ((w.alloc (.cells #[.func (.func 66) #[] #[]] 113)).alloc (.cells #[.func (.func 67) #[] #[], .func (.func 68) #[] #[], .func (.func 69) #[] #[.pointer (some ⟨w.heap.size, 0, none⟩)]] 98)) = w' := by
  go_enter Try.func51, Try.ntmps51
  go_wp2
  go_ret
  exact ⟨rfl, rfl⟩

set_option maxHeartbeats 1000000 in
theorem open1_calls (bF bP bf : Nat) (p : Sky) (g : Nat) (cv : Array Value) (r : Bool) (w : World) (eg : ∀ args w, (callFunc g args).run Try.prog w = .ok (.enter g args) w)
    (hF : w.cell? ⟨bF, 0, none⟩ = some (.pointer (some ⟨bf, 0, none⟩))) (hP : ∀ j (hj : j < (skyRow p).length), w.cell? ⟨bP, j, none⟩ = some (skyRow p)[j])
    (hc : Calls Try.prog g (#[.pointer (some ⟨bf, 0, none⟩), .agg (skyRow p).toArray] ++ cv) w fun e w' => e = .returned (.bool r) ∧ Below w.heap.size w w') :
    Calls Try.prog 52 #[.func (.func g) #[] cv, .pointer (some ⟨bF, 0, none⟩), .pointer (some ⟨bP, 0, none⟩)] w fun e w' => e = .returned (.bool (!r)) ∧ Below w.heap.size w w' := by
  have c0 := hP 0 (by simp [skyRow])
  have c1 := hP 1 (by simp [skyRow])
  have c2 := hP 2 (by simp [skyRow])
  have c3 := hP 3 (by simp [skyRow])
  have c4 := hP 4 (by simp [skyRow])
  have c5 := hP 5 (by simp [skyRow])
  clear hP
  simp only [skyRow, List.getElem_cons_zero, List.getElem_cons_succ] at c0 c1 c2 c3 c4 c5
  simp only [skyRow] at hc
  have HC := Lib.hid hc; clear hc
  go_enter Try.func52, Try.ntmps52
  go_wp2_with fail
  refine HC.out.mono ?_
  rintro e w1 ⟨rfl, hb⟩
  go_wp2
  go_ret
  exact ⟨rfl, hb⟩

theorem open1_enters (args : Array Value) (w : World) : (callFunc 52 args).run Try.prog w = .ok (.enter 52 args) w := by go_simp
theorem tests2_enters (args : Array Value) (w : World) : (callFunc 67 args).run Try.prog w = .ok (.enter 67 args) w := by go_simp
theorem tests3_enters (args : Array Value) (w : World) : (callFunc 68 args).run Try.prog w = .ok (.enter 68 args) w := by go_simp
theorem tests4_enters (args : Array Value) (w : World) : (callFunc 69 args).run Try.prog w = .ok (.enter 69 args) w := by go_simp

/-- Whether a plate fails a test, by the test's function. -/
def failsB (x : Fld) (p : Sky) : Value → Bool
  | .func (.func f) _ _ => if f = 67 then !withinB p.day x.d0 x.d1 else if f = 68 then !decide (x.depth ≤ p.depth) else !(meetB x.e0 x.e1 p.e0 p.e1 && meetB x.n0 x.n1 p.n0 p.n1)
  | _ => false

/-- Whether a plate is of no use, as open asks it. -/
theorem useless_calls (bF bP bf : Nat) (a : Option Addr) (cap : Nat) (x : Fld) (um mb : Nat) (p : Sky) (b bm : Nat) (w : World) (hf : FieldC w bf a cap x um mb)
    (hF : w.cell? ⟨bF, 0, none⟩ = some (.pointer (some ⟨bf, 0, none⟩))) (hFl : bF < w.heap.size) (hP : ∀ j (hj : j < (skyRow p).length), w.cell? ⟨bP, j, none⟩ = some (skyRow p)[j]) (hPl : bP < w.heap.size)
    (hb : b < w.heap.size) (hbm : bm < w.heap.size) (hm : w.cell? ⟨bm, 0, none⟩ = some (.func (.func 66) #[] #[]))
    (t0 : w.cell? ⟨b, 0, none⟩ = some (.func (.func 67) #[] #[])) (t1 : w.cell? ⟨b, 1, none⟩ = some (.func (.func 68) #[] #[])) (t2 : w.cell? ⟨b, 2, none⟩ = some (.func (.func 69) #[] #[.pointer (some ⟨bm, 0, none⟩)])) :
    Calls Try.prog 50 #[.slice (some ⟨b, 0, none⟩) 3 3, .func (.func 52) #[] #[.pointer (some ⟨bF, 0, none⟩), .pointer (some ⟨bP, 0, none⟩)]] w fun e w' => e = .returned (.bool (!useB x p)) ∧ Below w.heap.size w w' := by
  have hl : SlW 1 valRow w (.slice (some ⟨b, 0, none⟩) 3 3) [.func (.func 67) #[] #[], .func (.func 68) #[] #[], .func (.func 69) #[] #[.pointer (some ⟨bm, 0, none⟩)]] := by
    refine ⟨_, 3, rfl, by simp, .inr ⟨b, 0, rfl, hb, ?_⟩⟩
    intro k hk j hj
    simp only [valRow, List.length_cons, List.length_nil] at hj hk
    obtain rfl : j = 0 := by omega
    match k, hk with
    | 0, _ => exact t0
    | 1, _ => exact t1
    | 2, _ => exact t2
  have key := containsFuncFun (some ⟨b, 0, none⟩) 3 [.func (.func 67) #[] #[], .func (.func 68) #[] #[], .func (.func 69) #[] #[.pointer (some ⟨bm, 0, none⟩)]] 52
    #[.pointer (some ⟨bF, 0, none⟩), .pointer (some ⟨bP, 0, none⟩)] (failsB x p) (Below w.heap.size w) w open1_enters (fun W h => hl.below (Nat.le_refl _) h) (Up.refl _) ?_
  · have he2 : [Value.func (.func 67) #[] #[], .func (.func 68) #[] #[], .func (.func 69) #[] #[.pointer (some ⟨bm, 0, none⟩)]].any (failsB x p) = !useB x p := by
      unfold useB
      simp only [List.any_cons, List.any_nil, failsB]
      generalize withinB p.day x.d0 x.d1 = r1
      generalize decide (x.depth ≤ p.depth) = r2
      generalize (meetB x.e0 x.e1 p.e0 p.e1 && meetB x.n0 x.n1 p.n0 p.n1) = r3
      cases r1 <;> cases r2 <;> cases r3 <;> rfl
    rw [he2] at key
    exact key
  · intro v hv W hW
    have hf' := hf.below (Nat.le_refl _) hW
    have hF' := (hW.cell (p := ⟨bF, 0, none⟩) hFl).trans hF
    have hP' : ∀ j (hj : j < (skyRow p).length), W.cell? ⟨bP, j, none⟩ = some (skyRow p)[j] := fun j hj => (hW.cell (p := ⟨bP, j, none⟩) hPl).trans (hP j hj)
    have hm' := (hW.cell (p := ⟨bm, 0, none⟩) hbm).trans hm
    simp only [List.mem_cons, List.not_mem_nil, or_false] at hv
    rcases hv with rfl | rfl | rfl
    · exact (open1_calls bF bP bf p _ #[] _ W tests2_enters hF' hP' (tests2_calls bf a cap x um mb p W hf')).mono fun e w' ⟨he, hb⟩ => ⟨by rw [he]; rfl, hW.trans (hb.mono hW.size)⟩
    · exact (open1_calls bF bP bf p _ #[] _ W tests3_enters hF' hP' (tests3_calls bf a cap x um mb p W hf')).mono fun e w' ⟨he, hb⟩ => ⟨by rw [he]; rfl, hW.trans (hb.mono hW.size)⟩
    · exact (open1_calls bF bP bf p _ #[.pointer (some ⟨bm, 0, none⟩)] _ W tests4_enters hF' hP' (tests4_calls bf a cap x um mb p bm W hf' (Nat.lt_of_lt_of_le hbm hW.size) hm')).mono fun e w' ⟨he, hb⟩ => ⟨by rw [he]; rfl, hW.trans (hb.mono hW.size)⟩

end Go.Proofs.Ytlfemkelnllmnaa
