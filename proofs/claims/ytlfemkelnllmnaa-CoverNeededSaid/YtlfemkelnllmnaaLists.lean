/- cover.Lists. -/
import Derived.Test.YtlfemkelnllmnaaShort
import Derived.Sort.CutIn
import Derived.RegionIn
set_option linter.all false
set_option linter.unusedVariables false
set_option linter.unusedSimpArgs false
namespace Go.Proofs.Ytlfemkelnllmnaa
open Go.RowKit
attribute [local go_sem] Oper.semAt_some

theorem first_some (bx bk bl bf : Nat) (a : Option Addr) (cap : Nat) (x : Fld) (mb : Nat) (w : World) (s : Fin 4096) (hs : shortestL x = some s) (hv : validB x = true) (hbx : bx < w.heap.size) (hx : w.cell? ⟨bx, 0, none⟩ = some (.pointer (some ⟨bf, 0, none⟩))) (hL : ListC w bk bl bf a cap x (usefulM x) mb) :
    Calls Try.prog 28 #[.func (.func 53) #[] #[.pointer (some ⟨bx, 0, none⟩)], .func (.func 54) #[] #[.pointer (some ⟨bk, 0, none⟩), .pointer (some ⟨bl, 0, none⟩)]] w fun e w' => e = .returned (.int .u64 ((s.val : Nat) : Int)) ∧ Below w.heap.size w w' := by
  have h := first_calls bx bk bl bf a cap x mb w hv hbx hx hL
  have h2 : firstE x = .returned (.int .u64 ((s.val : Nat) : Int)) := by unfold shortestL at hs; unfold firstE; rw [hs]
  rw [h2] at h; exact h
theorem first_none (bx bk bl bf : Nat) (a : Option Addr) (cap : Nat) (x : Fld) (mb : Nat) (w : World) (hs : shortestL x = none) (hv : validB x = true) (hbx : bx < w.heap.size) (hx : w.cell? ⟨bx, 0, none⟩ = some (.pointer (some ⟨bf, 0, none⟩))) (hL : ListC w bk bl bf a cap x (usefulM x) mb) :
    Calls Try.prog 28 #[.func (.func 53) #[] #[.pointer (some ⟨bx, 0, none⟩)], .func (.func 54) #[] #[.pointer (some ⟨bk, 0, none⟩), .pointer (some ⟨bl, 0, none⟩)]] w fun e w' => e = .panicked [{ v := failure 4, recovered := false }] ∧ Below w.heap.size w w' := by
  have h := first_calls bx bk bl bf a cap x mb w hv hbx hx hL
  have h2 : firstE x = .panicked [{ v := failure 4, recovered := false }] := by unfold shortestL at hs; unfold firstE; rw [hs]
  rw [h2] at h; exact h

/-- The world at the first call: the field, a number and the error number in boxes. -/
def top3 (w : World) (a : Option Addr) (cap : Nat) (x : Fld) : World := ((w.alloc (.cells (fldL a cap x).toArray 26)).alloc (.cells #[.int .i64 0] 3)).alloc (.cells #[.int .i64 0] 30)
theorem top3_size (w : World) (a : Option Addr) (cap : Nat) (x : Fld) : (top3 w a cap x).heap.size = w.heap.size + 1 + 1 + 1 := by simp [top3]
theorem top3_up (w : World) (a : Option Addr) (cap : Nat) (x : Fld) : Below w.heap.size w (top3 w a cap x) := Up.alloc _ (Up.alloc _ (Up.alloc _ (Up.refl _)))
theorem top3_e (w : World) (a : Option Addr) (cap : Nat) (x : Fld) : Boxed (top3 w a cap x) (w.heap.size + 1 + 1) 30 (.int .i64 0) := by
  unfold top3; simpa using Boxed.new ((w.alloc (.cells (fldL a cap x).toArray 26)).alloc (.cells #[.int .i64 0] 3)) 30 (.int .i64 0)
theorem top3_n (w : World) (a : Option Addr) (cap : Nat) (x : Fld) : Boxed (top3 w a cap x) (w.heap.size + 1) 3 (.int .i64 0) := by
  unfold top3; simpa using (Boxed.new (w.alloc (.cells (fldL a cap x).toArray 26)) 3 (.int .i64 0)).alloc (.cells #[.int .i64 0] 30)

theorem cell_set_ne {w : World} {p q : Addr} {u old v : Value} (hp : w.cell? p = some old) (hq : w.cell? q = some v) (hne : v ≠ old) : (w.setCell p u).cell? q = some v := by
  rw [World.cell?_setCell_other w p q u (fun e => hne (by subst e; rw [hp] at hq; cases hq; rfl))]; exact hq
theorem ListC.kept {w w' : World} {bk bl bf : Nat} {a : Option Addr} {cap : Nat} {x : Fld} {um mb : Nat} (h : ListC w bk bl bf a cap x um mb) (hs : w.heap.size ≤ w'.heap.size) (hc : ∀ b o v, w.cell? ⟨b, o, none⟩ = some v → w'.cell? ⟨b, o, none⟩ = some v) : ListC w' bk bl bf a cap x um mb := by
  obtain ⟨v, hv1, hv2⟩ := h.ck
  have hS : ∀ {α : Type} {E : Nat} {row : α → List Value} {v : Value} {l : List α}, SlW E row w v l → SlW E row w' v l := by
    rintro α E row v l ⟨a, cap, h1, h2, h3⟩
    refine ⟨a, cap, h1, h2, h3.imp id ?_⟩
    rintro ⟨b, off, ha, hb, hx⟩
    exact ⟨b, off, ha, Nat.lt_of_lt_of_le hb hs, fun k hk j hj => hc _ _ _ (hx k hk j hj)⟩
  have h0 := h.f
  exact ⟨Nat.lt_of_lt_of_le h.lk hs, Nat.lt_of_lt_of_le h.lx hs, ⟨Nat.lt_of_lt_of_le h0.lt hs, hc _ _ _ h0.c0, hc _ _ _ h0.c1, hc _ _ _ h0.c2, hc _ _ _ h0.c3, hc _ _ _ h0.c4, hc _ _ _ h0.c5, hc _ _ _ h0.c6, hc _ _ _ h0.c7, hc _ _ _ h0.c8, hc _ _ _ h0.c9, hc _ _ _ h0.c10, hc _ _ _ h0.c11⟩, hS h.ps, ⟨v, hc _ _ _ hv1, hS hv2⟩, hc _ _ _ h.cx⟩
/-- A number's box is written: the closure of isList reads as before. -/
theorem ListC.set {w : World} {bk bl bf : Nat} {a : Option Addr} {cap : Nat} {x : Fld} {um mb nb : Nat} {n : Int} {u : Value} (h : ListC w bk bl bf a cap x um mb) (hn : w.cell? ⟨nb, 0, none⟩ = some (.int .i64 n)) (hps : SlW 6 skyRow (w.setCell ⟨nb, 0, none⟩ u) (.slice a x.ps.length cap) x.ps) : ListC (w.setCell ⟨nb, 0, none⟩ u) bk bl bf a cap x um mb := by
  obtain ⟨v, hv1, ak, capk, rfl, hl, hv3⟩ := h.ck
  have h0 := h.f
  have hne : bf ≠ nb := fun e => by have := h0.c0; rw [e, hn] at this; cases this
  have hc : ∀ o, (w.setCell ⟨nb, 0, none⟩ u).cell? ⟨bf, o, none⟩ = w.cell? ⟨bf, o, none⟩ := fun o => World.cell?_setCell_other w ⟨nb, 0, none⟩ ⟨bf, o, none⟩ u (fun e => hne (by cases e; rfl))
  refine ⟨by simpa using h.lk, by simpa using h.lx, ⟨by simpa using h0.lt, (hc _).trans h0.c0, (hc _).trans h0.c1, (hc _).trans h0.c2, (hc _).trans h0.c3, (hc _).trans h0.c4, (hc _).trans h0.c5, (hc _).trans h0.c6, (hc _).trans h0.c7, (hc _).trans h0.c8, (hc _).trans h0.c9, (hc _).trans h0.c10, (hc _).trans h0.c11⟩, hps, ⟨_, cell_set_ne hn hv1 (by simp), ak, capk, rfl, hl, hv3.imp id ?_⟩, cell_set_ne hn h.cx (by simp)⟩
  rintro ⟨b, off, ha, hb, hx⟩
  refine ⟨b, off, ha, by simpa using hb, fun k hk j hj => cell_set_ne hn (hx k hk j hj) ?_⟩
  simp [setRow] at hj ⊢

/-- What Lists says. -/
def listsN (x : Fld) (s : Nat) : Nat := (setsF x).countP fun t => decide (sizeN t.val = sizeN s) && listB x t.val
def listsV (x : Fld) : Int × Int := if validB x then (match shortestL x with | some s => ((listsN x s.val : Nat), 0) | none => (0, 4)) else (0, 1)

theorem boxed_first (w : World) (o : Obj) (T : Nat) (v : Value) : Boxed ((w.alloc (.cells #[v] T)).alloc o).drew w.heap.size T v := (Boxed.new w T v).alloc o
theorem boxed_second (w : World) (o : Obj) (T : Nat) (v : Value) : Boxed ((w.alloc o).alloc (.cells #[v] T)).drew (w.heap.size + 1) T v := by
  have h := Boxed.new (w.alloc o) T v
  rw [World.size_alloc] at h
  exact h
theorem gridS_len (u n : Nat) : ∀ (r c : Nat), (gridS u n c r).length ≤ r * n
  | 0, _ => by simp [gridS]
  | r + 1, c => by
    rw [gridS_succ, List.length_append]
    have h1 : (rowS u c 0 n).length ≤ n := by unfold rowS; exact Nat.le_trans (List.length_filter_le _ _) (by simp)
    have := gridS_len u n r (c + 1)
    rw [Nat.succ_mul]; omega
theorem setsF_len {x : Fld} (hl : x.ps.length ≤ 12) : (setsF x).length ≤ 60000 := by
  have h1 := gridS_len (usefulM x) (allN x + 1) (sizeN (usefulM x) + 1) 0
  have h2 := sizeN_le (usefulM x)
  have h3 := allN_lt hl
  have h4 : (sizeN (usefulM x) + 1) * (allN x + 1) ≤ 13 * 4096 := Nat.mul_le_mul (by omega) (by omega)
  unfold setsF setsL
  rw [List.length_map]
  omega

/-- What the loop of Lists keeps. -/
structure LInv (w : World) (bk bl bf b5 b6 : Nat) (a : Option Addr) (cap : Nat) (x : Fld) (mb s : Nat) (pre : List (Fin 4096)) (W : World) : Prop where
  up : Below w.heap.size w W
  L : ListC W bk bl bf a cap x (usefulM x) mb
  e : Boxed W (w.heap.size + 1 + 1) 30 (.int .i64 0)
  n : Boxed W (w.heap.size + 1) 3 (.int .i64 ((pre.countP fun t => decide (sizeN t.val = sizeN s) && listB x t.val : Nat) : Int))
  i : Boxed W b5 66 (.func (.func 54) #[] #[.pointer (some ⟨bk, 0, none⟩), .pointer (some ⟨bl, 0, none⟩)])
  z : Boxed W b6 3 (.int .i64 ((sizeN s : Nat) : Int))
theorem LInv.own (w : World) (bk bl bf b5 b6 : Nat) (a : Option Addr) (cap : Nat) (x : Fld) (mb s B : Nat) (hB : w.heap.size ≤ B) : OwnFrom B (fun pre W => LInv w bk bl bf b5 b6 a cap x mb s pre W) := by
  rintro pre W W' row ⟨h1, h2, h3, h4, h5, h6⟩ hg hr
  have hr2 : ∀ r, row = some r → ∃ o : Obj, W.heap[r]? = some o ∧ o.isCells = false := fun r e => (hr r e).2
  exact ⟨below_grow (B := B) h1 (Nat.le_refl _) hg hB (fun r e => (hr r e).1), h2.kept hg.size (fun b o v hv => cell_kept hv hg hr2), boxed_own _ _ (fun _ => _) () W W' row h3 hg hr2, boxed_own _ _ (fun _ => _) () W W' row h4 hg hr2, boxed_own _ _ (fun _ => _) () W W' row h5 hg hr2, boxed_own _ _ (fun _ => _) () W W' row h6 hg hr2⟩

theorem kpG_set {n₀ bx bf nb : Nat} {W : World} (v : Value) (hn : n₀ ≤ nb) (h1 : bx ≠ nb) (h2 : bf ≠ nb) : KpG n₀ bx bf W (W.setCell ⟨nb, 0, none⟩ v) :=
  ⟨(Below.refl _ W).setCell hn v, fun b hb o u hu => by
    rw [World.cell?_setCell_other W ⟨nb, 0, none⟩ ⟨b, o, none⟩ v (fun e => by cases hb with | inl e' => subst e'; cases e; exact h1 rfl | inr e' => subst e'; cases e; exact h2 rfl)]
    exact hu⟩
/-- One more. -/
theorem LInv.more {w : World} {bk bl bf b5 b6 : Nat} {a : Option Addr} {cap : Nat} {x : Fld} {mb s : Nat} {pre : List (Fin 4096)} {q : Fin 4096} {W : World} (h : LInv w bk bl bf b5 b6 a cap x mb s pre W) (hs : SlW 6 skyRow w (.slice a x.ps.length cap) x.ps) (h6 : w.heap.size + 1 ≠ b6)
    (hq : (pre ++ [q]).countP (fun t => decide (sizeN t.val = sizeN s) && listB x t.val) = pre.countP (fun t => decide (sizeN t.val = sizeN s) && listB x t.val) + 1) :
    LInv w bk bl bf b5 b6 a cap x mb s (pre ++ [q]) (W.setCell ⟨w.heap.size + 1, 0, none⟩ (.int .i64 (((pre.countP fun t => decide (sizeN t.val = sizeN s) && listB x t.val : Nat) : Int) + 1))) := by
  obtain ⟨h1, h2, h3, h4, h5, h7⟩ := h
  have hup := h1.setCell (p := ⟨w.heap.size + 1, 0, none⟩) (by simp) (.int .i64 (((pre.countP fun t => decide (sizeN t.val = sizeN s) && listB x t.val : Nat) : Int) + 1))
  refine ⟨hup, h2.set h4.cell (hs.below (Nat.le_refl _) hup), h3.other (by omega) _, ?_, h5.other (fun e => ?_) _, h7.other (fun e => h6 e.symm) _⟩
  · have := h4.set (.int .i64 (((pre.countP fun t => decide (sizeN t.val = sizeN s) && listB x t.val : Nat) : Int) + 1))
    rw [hq]; push_cast; exact this
  · subst e
    have := h5.cell
    rw [h4.cell] at this; cases this

/-- An exit of a region that does not hang on the frame where it panics. -/
def regQ (K : Act → World → Prop) (R : List PanicEntry → World → Prop) : Exit → Act → World → Prop
  | .normal, a, w => K a w
  | .panic c, _, w => R c w
  | _, _, _ => False

set_option maxHeartbeats 4000000 in
set_option maxRecDepth 10000 in
theorem lists_some (a : Option Addr) (cap : Nat) (x : Fld) (w : World) (hs : SlW 6 skyRow w (.slice a x.ps.length cap) x.ps) (hv : validB x = true) (s : Fin 4096) (hf : shortestL x = some s) :
    Calls Try.prog 11 #[fldV a cap x] w fun e w' => e = .returned (.tuple #[.int .i64 (listsN x s.val : Nat), .int .i64 0]) ∧ Below w.heap.size w w' := by
  have HO := Lib.hid (openP_calls a cap x w _ hs hv (top3_up w a cap x))
  have HPS := Lib.hid hs
  clear hs
  have HU0 := Lib.hid (top3_up w a cap x); have HB0 := Lib.hid (top3_e w a cap x); have HN0 := Lib.hid (top3_n w a cap x); have HS0 := Lib.hid (top3_size w a cap x)
  have htop : ((w.alloc (.cells #[.slice a x.ps.length cap, .int .i64 x.e0, .int .i64 x.e1, .int .i64 x.n0, .int .i64 x.n1, .int .i64 x.d0, .int .i64 x.d1, .int .i64 x.depth, .int .i64 x.times, .int .i64 x.gap] 26)).alloc (.cells #[.int .i64 0] 3)).alloc (.cells #[.int .i64 0] 30) = top3 w a cap x := rfl
  have HT := Lib.hid htop
  have hF1 : ∀ bx bk bl bf mb W, bx < W.heap.size → W.cell? ⟨bx, 0, none⟩ = some (.pointer (some ⟨bf, 0, none⟩)) → ListC W bk bl bf a cap x (usefulM x) mb → _ := fun bx bk bl bf mb W h1 h2 h3 => first_some bx bk bl bf a cap x mb W s hf hv h1 h2 h3
  have HFI := Lib.hid hF1
  clear htop hF1 hf
  have hslt := s.isLt
  unfold fldV at *
  refine (callsIn_wide (n := 9)).1 ?_
  refine callsIn_of_wp_marks Try.func11 rfl trivial ?_ rfl
  simp only [Try.ntmps11, List.size_toArray, List.length_cons, List.length_nil, Nat.reduceAdd, Nat.reduceSub, Array.replicate_succ, Array.replicate_zero, List.push_toArray, List.append_toArray, List.nil_append, List.cons_append]
  gi_wp2
  rw [HT.out]
  generalize top3 w a cap x = w0 at *
  refine ⟨trivial, (callsIn_wide.2 HO.out).mono ?_⟩
  rintro e w1 ⟨bf, rfl, hF, hb⟩
  have hbe1 := boxed_below HB0.out (Nat.le_refl _) hb
  have hbn1 := boxed_below HN0.out (Nat.le_refl _) hb
  have hup1 := HU0.out.trans (hb.mono HU0.out.size)
  have HF := Lib.hid hF; have HB := Lib.hid hbe1; have HN := Lib.hid hbn1; have HU := Lib.hid hup1
  clear hF hbe1 hbn1 hup1 hb HB0 HN0 HU0 HO HS0 HT
  gi_wp2
  refine ⟨trivial, (callsIn_wide.2 (isList_calls bf a cap x _ hv HF.out)).mono ?_⟩
  rintro e w2 ⟨bk, bl, mb, rfl, hL, hb⟩
  have hbe2 := (boxed_below HB.out (Nat.le_refl _) hb).alloc (.cells #[listF bk bl] 66)
  have hbn2 := (boxed_below HN.out (Nat.le_refl _) hb).alloc (.cells #[listF bk bl] 66)
  have hbi2 := Boxed.new w2 66 (listF bk bl)
  have hL2 := hL.below (Nat.le_refl _) (Up.alloc (.cells #[listF bk bl] 66) (Up.refl w2))
  have hup2 : Below w.heap.size w (w2.alloc (.cells #[listF bk bl] 66)) := (HU.out.trans (hb.mono HU.out.size)).alloc (HU.out.trans (hb.mono HU.out.size)).size _
  have HF2 := Lib.hid hL2; have HB2 := Lib.hid hbe2; have HN2 := Lib.hid hbn2; have HI2 := Lib.hid hbi2; have HU2 := Lib.hid hup2
  clear hL hL2 hbe2 hbn2 hbi2 hup2 hb HF HB HN HU
  gi_wp2
  unfold listF at *
  generalize w2.alloc (.cells #[.func (.func 54) #[] #[.pointer (some ⟨bk, 0, none⟩), .pointer (some ⟨bl, 0, none⟩)]] 66) = w3 at *
  gi_cut [6] from 12 (fun s6 wc => ∃ b6, s6 = .pointer (some ⟨b6, 0, none⟩) ∧ w3.heap.size ≤ b6 ∧ Boxed wc b6 3 (.int .i64 ((sizeN s.val : Nat) : Int)) ∧ Below w3.heap.size w3 wc)
  case first =>
    have ci := HI2.out.cell
    have hil := HI2.out.lt
    rename_i J K' hJ hK'
    refine wpIn_mono (Q := regQ K' (fun _ _ => False)) ?_ (fun e a w h => by cases e <;> first | exact h | exact h.elim)
    gi_region_with (first
      | (refine ⟨trivial, ?_⟩; gi_at_call 29; refine (callsIn_wide.2 (sets_calls _ _)).mono ?_; rintro e w' ⟨rfl, rfl⟩)
      | (refine ⟨trivial, ?_⟩; gi_at_call 28; refine (callsIn_wide.2 (HFI.out _ bk bl bf mb _ (by simp <;> omega) (by go_simp) (HF2.out.below (Nat.le_refl _) (by repeat (first | exact Up.refl _ | refine Up.alloc _ ?_ | refine Up.drew ?_))))).mono ?_; rintro e w' ⟨rfl, hb⟩; obtain ⟨g, rfl⟩ := GW.of hb; clear hb)
      | (refine ⟨trivial, ?_⟩; gi_at_call 31; refine (callsIn_wide.2 (size_calls _ _ hslt)).mono ?_; rintro e w' ⟨rfl, rfl⟩))
    all_goals change K' _ _
    all_goals refine hK' _ _ (Met.intro (hJ _ _ ?_))
    all_goals (repeat apply Exists.intro)
    all_goals refine ⟨?_, rfl⟩
    all_goals have hupg := Up.gwB g (show Below w3.heap.size w3 _ by repeat (first | exact Up.refl _ | refine Up.alloc _ ?_ | refine Up.drew ?_)) (by simp <;> omega)
    all_goals first
      | refine ⟨g.w.heap.size, by with_reducible rfl, hupg.size, Boxed.new g.w _ _, hupg.alloc hupg.size _⟩
      | refine ⟨w3.heap.size, by with_reducible rfl, Nat.le_refl _, (boxed_below (boxed_first _ _ _ _) (Nat.le_refl _) g.h).set _, hupg.setCell (by simp) _⟩
      | refine ⟨w3.heap.size + 1, by with_reducible rfl, by omega, (boxed_below (boxed_second _ _ _ _) (Nat.le_refl _) g.h).set _, hupg.setCell (by simp) _⟩
  case rest =>
    obtain ⟨b6, rfl, h6, hb6, hup6⟩ := hcut
    have HN3 : Hid (w.heap.size + 1 < b6) := by have := HN2.out.lt; unfold Hid; omega
    have hF6 := HF2.out.below (Nat.le_refl _) hup6
    have hE6 := boxed_below HB2.out (Nat.le_refl _) hup6
    have hN6 := boxed_below HN2.out (Nat.le_refl _) hup6
    have hI6 := boxed_below HI2.out (Nat.le_refl _) hup6
    have hU6 := HU2.out.trans (hup6.mono HU2.out.size)
    have HF := Lib.hid hF6; have HE := Lib.hid hE6; have HN := Lib.hid hN6; have HI := Lib.hid hI6; have HU := Lib.hid hU6; have H6 := Lib.hid hb6
    clear hF6 hE6 hN6 hI6 hU6 hb6 hup6 HF2 HB2 HN2 HI2 HU2
    gi_wp2
    refine ⟨trivial, (callsIn_wide.2 (sets_calls _ _)).mono ?_⟩
    rintro e w' ⟨rfl, rfl⟩
    gi_wp2
    have hup0 : Below wc.heap.size wc (wc.alloc (.cells #[.pointer (some ⟨bf, 0, none⟩)] 58)) := Up.alloc _ (Up.refl _)
    have hFC := HF.out.f.below (Nat.le_refl _) hup0
    refine wpIn_rangeFunc_ownH (F := Fence.wide) (n := 9) rfl (by omega) (gf := 53) (lb := #[.pointer (some ⟨wc.heap.size, 0, none⟩)]) rfl trivial (enters_of Try.func53 (by kernel_rfl) rfl)
      (sets1_stops 8 (by omega) wc.heap.size bf w.heap.size a cap x mb _ hv hFC (by simp) (by simp; have := HU.out.size; omega) (by go_simp)) kpG_t (kpG_b (by simp; have := HU.out.size; omega)) (Below.refl _ _) (fun _ => rfl)
      (fun pre W => LInv w bk bl bf w2.heap.size b6 a cap x mb s.val pre W) (fun _ _ _ => False) (LInv.own w bk bl bf _ b6 a cap x mb s.val _ (by simp; have := HU.out.size; omega)) (fun _ _ _ _ _ hs _ _ => hs) ?start
      (fun q a' _ => a' = { tmps := #[.agg #[.slice a x.ps.length cap, .int .i64 x.e0, .int .i64 x.e1, .int .i64 x.n0, .int .i64 x.n1, .int .i64 x.d0, .int .i64 x.d1, .int .i64 x.depth, .int .i64 x.times, .int .i64 x.gap], .pointer (some ⟨w.heap.size, 0, none⟩), .pointer (some ⟨w.heap.size + 1, 0, none⟩), .pointer (some ⟨w.heap.size + 1 + 1, 0, none⟩), .pointer (some ⟨bf, 0, none⟩), .pointer (some ⟨w2.heap.size, 0, none⟩), .pointer (some ⟨b6, 0, none⟩), .int .u64 ((q.val : Nat) : Int), .agg #[.slice a x.ps.length cap, .int .i64 x.e0, .int .i64 x.e1, .int .i64 x.n0, .int .i64 x.n1, .int .i64 x.d0, .int .i64 x.d1, .int .i64 x.depth, .int .i64 x.times, .int .i64 x.gap], .pointer (some ⟨bf, 0, none⟩), .pointer (some ⟨bf, 0, none⟩), .func (.func 54) #[] #[.pointer (some ⟨bk, 0, none⟩), .pointer (some ⟨bl, 0, none⟩)], u12, u13, u14, u15, u16, .pointer (some ⟨bf, 0, none⟩), .func (.func 53) #[] #[.pointer (some ⟨wc.heap.size, 0, none⟩)], .int .u64 ((q.val : Nat) : Int), u20, u21, u22, u23, u24, u25, u26, u27, u28, u29, u30, u31], defers := [] }) (fun _ _ _ _ _ _ h _ _ => h) ?assign ?body ?done ?stop
    case assign =>
      intro l pre q W K hI hK
      dsimp only [encS]
      gi_wp2
      exact hK _ _ (KeepsFrom.refl _ _) (kpG_r _) hI rfl
    case start =>
      exact ⟨HU.out.trans (hup0.mono HU.out.size), HF.out.below (Nat.le_refl _) hup0, boxed_below HE.out (Nat.le_refl _) hup0, boxed_below HN.out (Nat.le_refl _) hup0, boxed_below HI.out (Nat.le_refl _) hup0, boxed_below H6.out (Nat.le_refl _) hup0⟩
    case body =>
      rintro l pre q a' W hl ⟨r, hr⟩ hI rfl hlen
      have hq := q.isLt
      have hlen2 : pre.length < 60000 := Nat.lt_of_lt_of_le hlen (setsF_len (valid_bounds hv).2.2.2.2.2.2.1)
      have hcl := List.countP_le_length (p := fun t : Fin 4096 => decide (sizeN t.val = sizeN s.val) && listB x t.val) (l := pre)
      have hsnoc : (pre ++ [q]).countP (fun t : Fin 4096 => decide (sizeN t.val = sizeN s.val) && listB x t.val) = pre.countP (fun t : Fin 4096 => decide (sizeN t.val = sizeN s.val) && listB x t.val) + if decide (sizeN q.val = sizeN s.val) && listB x q.val then 1 else 0 := by
        rw [List.countP_append, List.countP_cons, List.countP_nil]; simp
      have HI' := Lib.hid hI
      obtain ⟨hup, hL, hE, hN, hI5, hZ⟩ := hI
      have cN := hN.cell; have fN := hN.frozen; have c5 := hI5.cell; have c6 := hZ.cell
      have nN := hN.lt; have n5 := hI5.lt; have n6 := hZ.lt
      have hsq := fun W' : World => size_calls q.val W' hq
      have hlq := fun (g : GW W.heap.size W) => list1_calls bk bl bf a cap x q.val g.w hv hq _ _ (hL.below (Nat.le_refl _) g.h)
      have HSQ := Lib.hid hsq; have HLQ := Lib.hid hlq
      have HN2 := Lib.hid hN; have HL2 := Lib.hid hL; have HU2 := Lib.hid hup; have HSN := Lib.hid hsnoc
      clear hsq hlq hN hI5 hZ hE hL hup hr hlen hsnoc
      by_cases hsz : sizeN q.val = sizeN s.val
      · have hsz2 : (((sizeN q.val : Nat) : Int) == ((sizeN s.val : Nat) : Int)) = true := by simp [hsz]
        have HSZ := Lib.hid hsz; clear hsz
        gi_wp2
        refine GW.regionR W (by kernel_rfl) (by kernel_rfl) (by kernel_rfl) (Up.refl _) ?_
        repeat (go_big_quiet_step (first
          | (go_at_call 31; exact GW.callSame (HSQ.out _))
          | (go_at_call 54; exact GW.call (Nat.le_refl _) (HLQ.out _))))
        refine wpQuiet_nil ?_
        rintro _ ⟨g, rfl⟩
        have hI2 := LInv.own w bk bl bf w2.heap.size b6 a cap x mb s.val w.heap.size (Nat.le_refl _) pre W g.w none HI'.out g.grown (fun r e => by cases e)
        have hne : bf ≠ w.heap.size + 1 := fun e => by
          have h1 := hI2.L.f.c0
          rw [e, hI2.n.cell] at h1; cases h1
        have hnx : wc.heap.size ≠ w.heap.size + 1 := by have := HN.out.lt; omega
        have hn6 : w.heap.size + 1 ≠ b6 := by have := HN3.out; omega
        have hwn : w.heap.size + 1 < wc.heap.size := HN.out.lt
        have HI2 := Lib.hid hI2; clear hI2
        cases hlb : listB x q.val with
        | true =>
          have hq1 := HSN.out
          rw [if_pos (by simp [HSZ.out, hlb])] at hq1
          have HQ1 := Lib.hid hq1; clear hq1 hlb
          gi_wp2
          refine ⟨(g.keeps _).trans (KeepsFrom.of_grownBy (grownBy_setCell' g.w (w.heap.size + 1) _) (fun j e => by cases e; simp; omega)), kpG_t (g.kpG HU2.out.size) (kpG_set _ (by omega) hnx hne), ?_⟩
          exact HI2.out.more HPS.out hn6 HQ1.out
        | false =>
          have hq1 := HSN.out
          rw [if_neg (by simp [hlb])] at hq1
          have HQ1 := Lib.hid hq1; clear hq1 hlb
          gi_wp2
          refine ⟨g.keeps _, g.kpG HU2.out.size, HI2.out.up, HI2.out.L, HI2.out.e, ?_, HI2.out.i, HI2.out.z⟩
          rw [HQ1.out]; exact HI2.out.n
      · have hsz2 : (((sizeN q.val : Nat) : Int) == ((sizeN s.val : Nat) : Int)) = false := by
          have hz : ¬ ((sizeN q.val : Nat) : Int) = ((sizeN s.val : Nat) : Int) := by omega
          simp only [beq_eq_false_iff_ne, ne_eq]; exact hz
        have hq1 := HSN.out
        rw [if_neg (by simp [hsz])] at hq1
        have HQ1 := Lib.hid hq1; clear hq1 hsz
        gi_wp2
        refine GW.regionR W (by kernel_rfl) (by kernel_rfl) (by kernel_rfl) (Up.refl _) ?_
        repeat (go_big_quiet_step (first
          | (go_at_call 31; exact GW.callSame (HSQ.out _))
          | (go_at_call 54; exact GW.call (Nat.le_refl _) (HLQ.out _))))
        refine wpQuiet_nil ?_
        rintro _ ⟨g, rfl⟩
        have hI2 := LInv.own w bk bl bf w2.heap.size b6 a cap x mb s.val w.heap.size (Nat.le_refl _) pre W g.w none HI'.out g.grown (fun r e => by cases e)
        have HI2 := Lib.hid hI2; clear hI2
        gi_wp2
        refine ⟨g.keeps _, g.kpG HU2.out.size, HI2.out.up, HI2.out.L, HI2.out.e, ?_, HI2.out.i, HI2.out.z⟩
        rw [HQ1.out]; exact HI2.out.n
    case done =>
      rintro D ys W hD rfl hI hK
      have cN := hI.n.cell; have fN := hI.n.frozen; have nN := hI.n.lt
      have cE := hI.e.cell; have fE := hI.e.frozen; have nE := hI.e.lt
      have HI3 := Lib.hid hI; have HK := Lib.hid hK; clear hI hK
      simp only [World.size_alloc] at hD
      have hwn : w.heap.size + 1 + 1 < wc.heap.size := HE.out.lt
      gi_wp2
      have hK2 : ((W.setCell ⟨w.heap.size + 1, 0, none⟩ (.int .i64 (((setsF x).countP fun t => decide (sizeN t.val = sizeN s.val) && listB x t.val : Nat) : Int))).setCell ⟨w.heap.size + 1 + 1, 0, none⟩ (.int .i64 0)).heap[D]? = some (.deferred (some [])) := by
        rw [Below.heap_setCell _ _ _ _ (by simp; omega), Below.heap_setCell _ _ _ _ (by simp; omega)]; exact HK.out
      have hN4 := (HI3.out.n.set (.int .i64 (((setsF x).countP fun t => decide (sizeN t.val = sizeN s.val) && listB x t.val : Nat) : Int))).other (B' := w.heap.size + 1 + 1) (by omega) (.int .i64 0)
      have hE4 := (HI3.out.e.other (B' := w.heap.size + 1) (by omega) (.int .i64 (((setsF x).countP fun t => decide (sizeN t.val = sizeN s.val) && listB x t.val : Nat) : Int))).set (.int .i64 0)
      have hU4 := (HI3.out.up.setCell (p := ⟨w.heap.size + 1, 0, none⟩) (by simp) (.int .i64 (((setsF x).countP fun t => decide (sizeN t.val = sizeN s.val) && listB x t.val : Nat) : Int))).setCell (p := ⟨w.heap.size + 1 + 1, 0, none⟩) (by simp; omega) (.int .i64 0)
      have hN5 : Boxed (((W.setCell ⟨w.heap.size + 1, 0, none⟩ (.int .i64 (((setsF x).countP fun t => decide (sizeN t.val = sizeN s.val) && listB x t.val : Nat) : Int))).setCell ⟨w.heap.size + 1 + 1, 0, none⟩ (.int .i64 0)).putObj D (.deferred none)) (w.heap.size + 1) 3 _ := (World.putObj_heap_other (by omega)).trans hN4
      have hE5 : Boxed (((W.setCell ⟨w.heap.size + 1, 0, none⟩ (.int .i64 (((setsF x).countP fun t => decide (sizeN t.val = sizeN s.val) && listB x t.val : Nat) : Int))).setCell ⟨w.heap.size + 1 + 1, 0, none⟩ (.int .i64 0)).putObj D (.deferred none)) (w.heap.size + 1 + 1) 30 _ := (World.putObj_heap_other (by omega)).trans hE4
      have hU5 := hU4.trans (putObj_below (.deferred none) (show w.heap.size ≤ D by omega))
      have k1 := hN5.cell; have k2 := hE5.cell
      refine leavesM_collected (by simp) hK2 (leavesM_told (v := .tuple #[.int .i64 (((setsF x).countP fun t => decide (sizeN t.val = sizeN s.val) && listB x t.val : Nat) : Int), .int .i64 0]) ?_ ⟨rfl, hU5⟩)
      simp [results, Try.results11, go_sem, k1, k2]
    case stop =>
      rintro D c pre W _ _ h _
      exact h.elim

end Go.Proofs.Ytlfemkelnllmnaa
