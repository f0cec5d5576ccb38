/- (*cover.field).sets, cover.first: the first set of plates of use that is a list. -/
import Derived.Test.YtlfemkelnllmnaaSets
set_option linter.all false
set_option linter.unusedVariables false
set_option linter.unusedSimpArgs false
namespace Go.Proofs.Ytlfemkelnllmnaa
open Go.RowKit
attribute [local go_sem] Oper.semAt_some

theorem sets_calls (bf : Nat) (w : World) :
    Calls Try.prog 29 #[.pointer (some ⟨bf, 0, none⟩)] w fun e w' => e = .returned (.func (.func 53) #[] #[.pointer (some ⟨w.heap.size, 0, none⟩)]) ∧ w.alloc (.cells #[.pointer (some ⟨bf, 0, none⟩)] 58) = w' := by
  go_enter Try.func29, Try.ntmps29
  go_wp2
  go_ret
  exact ⟨rfl, rfl⟩

theorem GW.kpG {W : World} {n b f : Nat} (g : GW W.heap.size W) (hn : n ≤ W.heap.size) : KpG n b f W g.w := ⟨g.h.mono hn, fun _ _ _ v hv => cell_kept hv g.grown (fun r e => by cases e)⟩

/-- The closure of isList, as a value. -/
def listF (bk bl : Nat) : Value := .func (.func 54) #[] #[.pointer (some ⟨bk, 0, none⟩), .pointer (some ⟨bl, 0, none⟩)]

/-- What the loop of 'first' keeps. -/
structure FInv (w : World) (n bk bl : Nat) (x : Fld) (pre : List (Fin 4096)) (W : World) : Prop where
  up : Below n w W
  b0 : Boxed W n 66 (listF bk bl)
  b1 : Boxed W (n + 1) 61 (.int .u64 0)
  non : ∀ s ∈ pre, listB x s.val = false
theorem FInv.own (w : World) (n bk bl B : Nat) (x : Fld) (hn : n ≤ w.heap.size) (hB : n ≤ B) : OwnFrom B (fun pre W => FInv w n bk bl x pre W) := by
  rintro pre W W' row ⟨h1, h2, h3, h4⟩ hg hr
  have hr2 : ∀ r, row = some r → ∃ o : Obj, W.heap[r]? = some o ∧ o.isCells = false := fun r e => (hr r e).2
  exact ⟨below_grow (B := B) h1 hn hg hB (fun r e => (hr r e).1), boxed_own _ _ (fun _ => _) () W W' row h2 hg hr2, boxed_own _ _ (fun _ => _) () W W' row h3 hg hr2, h4⟩
structure FStop (w : World) (n : Nat) (x : Fld) (c : Code) (pre : List (Fin 4096)) (W : World) : Prop where
  up : Below n w W
  c : c = .ret
  b1 : ∃ s pre', pre = pre' ++ [s] ∧ (∀ t ∈ pre', listB x t.val = false) ∧ listB x s.val = true ∧ Boxed W (n + 1) 61 (.int .u64 ((s.val : Nat) : Int))
theorem FStop.own (w : World) (n B : Nat) (x : Fld) (c : Code) (hn : n ≤ w.heap.size) (hB : n ≤ B) : OwnFrom B (fun pre W => FStop w n x c pre W) := by
  rintro pre W W' row ⟨h1, h2, s, pre', h3, h4, h5, h6⟩ hg hr
  have hr2 : ∀ r, row = some r → ∃ o : Obj, W.heap[r]? = some o ∧ o.isCells = false := fun r e => (hr r e).2
  exact ⟨below_grow (B := B) h1 hn hg hB (fun r e => (hr r e).1), h2, s, pre', h3, h4, h5, boxed_own _ _ (fun _ => _) () W W' row h6 hg hr2⟩

/-- What 'first' comes to. -/
def firstE (x : Fld) : Ending := match (setsF x).find? (fun s => listB x s.val) with
  | some s => .returned (.int .u64 ((s.val : Nat) : Int))
  | none => .panicked [{ v := failure 4, recovered := false }]

set_option maxHeartbeats 2000000 in
set_option maxRecDepth 10000 in
theorem first_calls (bx bk bl bf : Nat) (a : Option Addr) (cap : Nat) (x : Fld) (mb : Nat) (w : World) (hv : validB x = true) (hbx : bx < w.heap.size) (hx : w.cell? ⟨bx, 0, none⟩ = some (.pointer (some ⟨bf, 0, none⟩))) (hL : ListC w bk bl bf a cap x (usefulM x) mb) :
    Calls Try.prog 28 #[.func (.func 53) #[] #[.pointer (some ⟨bx, 0, none⟩)], listF bk bl] w fun e w' => e = firstE x ∧ Below w.heap.size w w' := by
  have hf := hL.f
  have hbl := hf.lt
  have HL := Lib.hid hL; clear hL
  refine (callsIn_wide (n := 9)).1 ?_
  refine callsIn_of_wp_marks Try.func28 rfl trivial ?_ rfl
  simp only [Try.ntmps28, List.size_toArray, List.length_cons, List.length_nil, Nat.reduceAdd, Nat.reduceSub, Array.replicate_succ, Array.replicate_zero, List.push_toArray, List.append_toArray, List.nil_append, List.cons_append]
  gi_wp2
  have hup0 : Below w.heap.size w ((w.alloc (.cells #[listF bk bl] 66)).alloc (.cells #[.int .u64 0] 61)) := Up.alloc _ (Up.alloc _ (Up.refl _))
  refine wpIn_rangeFunc_ownH (F := Fence.wide) (n := 9) rfl (by omega) (gf := 53) (lb := #[.pointer (some ⟨bx, 0, none⟩)]) rfl trivial (enters_of Try.func53 (by kernel_rfl) rfl)
    (sets1_stops 8 (by omega) bx bf w.heap.size a cap x mb _ hv (hf.below (Nat.le_refl _) hup0) (Nat.lt_of_lt_of_le hbx hup0.size) hup0.size ((hup0.cell (p := ⟨bx, 0, none⟩) hbx).trans hx)) kpG_t (kpG_b hup0.size) (Below.refl _ _) (fun _ => rfl)
    (fun pre W => FInv w w.heap.size bk bl x pre W) (fun c pre W => FStop w w.heap.size x c pre W) (FInv.own w w.heap.size bk bl _ x (Nat.le_refl _) hup0.size) (fun c => FStop.own w w.heap.size _ x c (Nat.le_refl _) hup0.size) ?start
    (fun s a' _ => a' = { tmps := #[.func (.func 53) #[] #[.pointer (some ⟨bx, 0, none⟩)], listF bk bl, undef, .pointer (some ⟨w.heap.size, 0, none⟩), .pointer (some ⟨w.heap.size + 1, 0, none⟩), .int .u64 ((s.val : Nat) : Int), .func (.func 53) #[] #[.pointer (some ⟨bx, 0, none⟩)], .int .u64 ((s.val : Nat) : Int), undef, undef, undef, undef, undef, undef], defers := [] }) (fun _ _ _ _ _ _ h _ _ => h) ?assign ?body ?done ?stop
  case assign =>
    intro l pre q W K hI hK
    dsimp only [encS]
    gi_wp2
    exact hK _ _ (KeepsFrom.refl _ _) (kpG_r _) hI rfl
  case start =>
    exact ⟨hup0, (Boxed.new w 66 (listF bk bl)).alloc _, by simpa using Boxed.new (w.alloc (.cells #[listF bk bl] 66)) 61 (.int .u64 0), by simp⟩
  case body =>
    rintro l pre q a' W hl ⟨r, hr⟩ hI rfl hlen
    obtain ⟨hup, hb0, hb1, hnon⟩ := hI
    have hqlt := q.isLt
    have c0 := hb0.cell
    have c1 := hb1.cell
    have f1 := hb1.frozen
    have n0 := hb0.lt
    have n1 := hb1.lt
    have hcall := list1_calls bk bl bf a cap x q.val W hv hqlt _ _ (HL.out.below (Nat.le_refl _) hup)
    have HC := Lib.hid hcall; have HB0 := Lib.hid hb0; have HB1 := Lib.hid hb1; have HN := Lib.hid hnon
    clear hcall hb0 hb1 hnon hf hr hlen
    unfold listF at *
    cases hqv : listB x q.val with
    | false =>
      rw [hqv] at HC
      have HQ := Lib.hid hqv; clear hqv
      gi_wp2_with (refine ⟨trivial, ?_⟩; gi_at_call 54; refine (CallsIn.inRound l (callsIn_wide.2 HC.out)).mono ?_; rintro e w1 ⟨rfl, hb⟩; obtain ⟨g, rfl⟩ := GW.of hb; clear hb)
      have hI2 := FInv.own w w.heap.size bk bl w.heap.size x (Nat.le_refl _) (Nat.le_refl _) pre W g.w none ⟨hup, HB0.out, HB1.out, HN.out⟩ g.grown (fun r e => by cases e)
      refine ⟨g.keeps _, g.kpG hup.size, hI2.up, hI2.b0, hI2.b1, fun s hs => ?_⟩
      rcases List.mem_append.1 hs with hs | hs
      · exact HN.out s hs
      · simp at hs; subst hs; exact HQ.out
    | true =>
      rw [hqv] at HC
      have HQ := Lib.hid hqv; clear hqv
      gi_wp2_with (refine ⟨trivial, ?_⟩; gi_at_call 54; refine (CallsIn.inRound l (callsIn_wide.2 HC.out)).mono ?_; rintro e w1 ⟨rfl, hb⟩; obtain ⟨g, rfl⟩ := GW.of hb; clear hb)
      have hI2 := FInv.own w w.heap.size bk bl w.heap.size x (Nat.le_refl _) (Nat.le_refl _) pre W g.w none ⟨hup, HB0.out, HB1.out, HN.out⟩ g.grown (fun r e => by cases e)
      have hb2 := hI2.b1
      refine ⟨(g.keeps _).trans (KeepsFrom.of_grownBy (grownBy_setCell' g.w (w.heap.size + 1) _) (fun j e => by cases e; simp)), hI2.up.setCell (by simp) _, rfl, q, pre, rfl, HN.out, HQ.out, hb2.set _⟩
  case done =>
    rintro D ys W hD rfl hI hK
    have HI := Lib.hid hI; have HK := Lib.hid hK; clear hI hK
    gi_wp2
    refine ⟨by simp, .inl ⟨_, _, rfl, run_takeDeferred HK.out, ?_⟩⟩
    refine ⟨?_, HI.out.up.trans (putObj_below (.deferred none) (show w.heap.size ≤ D by simp at hD; omega))⟩
    have hn : (setsF x).find? (fun s => listB x s.val) = none := by
      rw [List.find?_eq_none]
      intro s hs
      simp [HI.out.non s hs]
    unfold firstE
    rw [hn]; rfl
  case stop =>
    rintro D c pre W hD hpre ⟨hup, rfl, s, pre', rfl, h1, h2, h3⟩ hK
    have hfd : (setsF x).find? (fun s => listB x s.val) = some s := by
      obtain ⟨t, ht⟩ := hpre
      rw [← ht, List.append_assoc, List.find?_append]
      have : pre'.find? (fun s => listB x s.val) = none := by
        rw [List.find?_eq_none]; intro u hu; simp [h1 u hu]
      rw [this]; simp [h2]
    have H4 : Hid ((W.putObj D (.deferred none)).cell? ⟨w.heap.size + 1, 0, none⟩ = some (.int .u64 ((s.val : Nat) : Int))) := cell_kept h3.cell (grownBy_putObj' _ D (.deferred none)) (fun r e => by cases e; exact ⟨_, hK, rfl⟩)
    have HK := Lib.hid hK; clear h3 hK
    gi_wp2
    refine ⟨by simp, .inl ⟨_, _, rfl, run_takeDeferred HK.out, ?_⟩⟩
    have h4 := H4.out
    refine ⟨_, by simp [results, Try.results28, go_sem, h4]; rfl, ?_, hup.trans (putObj_below (.deferred none) (show w.heap.size ≤ D by simp at hD; omega))⟩
    unfold firstE
    rw [hfd]

end Go.Proofs.Ytlfemkelnllmnaa
