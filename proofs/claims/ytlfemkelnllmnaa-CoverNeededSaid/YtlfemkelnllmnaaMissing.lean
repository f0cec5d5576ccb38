/- cover.Missing. -/
import Derived.Test.YtlfemkelnllmnaaLists
set_option linter.all false
set_option linter.unusedVariables false
set_option linter.unusedSimpArgs false
namespace Go.Proofs.Ytlfemkelnllmnaa
open Go.RowKit
attribute [local go_sem] Oper.semAt_some

/-- The places that a set does not serve. -/
def missL (x : Fld) (s : Nat) (l : List (Int × Int)) : List (Int × Int) := l.filter fun q => !servesB x (atM x q &&& s)
def missingV (x : Fld) (s : Int) : Int × Int × Int × Int :=
  if validB x then (if withinB s 0 (allN x : Int) then (match missL x s.toNat (placesL x) with | [] => (0, 0, 0, 4) | q :: l => (q.1, q.2, ((l.length + 1 : Nat) : Int), 0)) else (0, 0, 0, 2)) else (0, 0, 0, 1)

/-- The world at the first call. -/
def top6 (w : World) (a : Option Addr) (cap : Nat) (x : Fld) (s : Int) : World := (((((w.alloc (.cells (fldL a cap x).toArray 26)).alloc (.cells #[.int .i64 s] 3)).alloc (.cells #[.int .i64 0] 3)).alloc (.cells #[.int .i64 0] 3)).alloc (.cells #[.int .i64 0] 3)).alloc (.cells #[.int .i64 0] 30)
structure Top6 (w : World) (s e n k er : Int) (W : World) : Prop where
  up : Below w.heap.size w W
  s : Boxed W (w.heap.size + 1) 3 (.int .i64 s)
  e : Boxed W (w.heap.size + 1 + 1) 3 (.int .i64 e)
  n : Boxed W (w.heap.size + 1 + 1 + 1) 3 (.int .i64 n)
  k : Boxed W (w.heap.size + 1 + 1 + 1 + 1) 3 (.int .i64 k)
  er : Boxed W (w.heap.size + 1 + 1 + 1 + 1 + 1) 30 (.int .i64 er)
theorem top6_is (w : World) (a : Option Addr) (cap : Nat) (x : Fld) (s : Int) : Top6 w s 0 0 0 0 (top6 w a cap x s) := by
  unfold top6
  refine ⟨Up.alloc _ (Up.alloc _ (Up.alloc _ (Up.alloc _ (Up.alloc _ (Up.alloc _ (Up.refl _)))))), ?_, ?_, ?_, ?_, ?_⟩
  · have h := ((((Boxed.new (w.alloc (.cells (fldL a cap x).toArray 26)) 3 (.int .i64 s)).alloc (.cells #[.int .i64 0] 3)).alloc (.cells #[.int .i64 0] 3)).alloc (.cells #[.int .i64 0] 3)).alloc (.cells #[.int .i64 0] 30)
    simpa only [World.size_alloc] using h
  · have h := (((Boxed.new ((w.alloc (.cells (fldL a cap x).toArray 26)).alloc (.cells #[.int .i64 s] 3)) 3 (.int .i64 0)).alloc (.cells #[.int .i64 0] 3)).alloc (.cells #[.int .i64 0] 3)).alloc (.cells #[.int .i64 0] 30)
    simpa only [World.size_alloc] using h
  · have h := ((Boxed.new (((w.alloc (.cells (fldL a cap x).toArray 26)).alloc (.cells #[.int .i64 s] 3)).alloc (.cells #[.int .i64 0] 3)) 3 (.int .i64 0)).alloc (.cells #[.int .i64 0] 3)).alloc (.cells #[.int .i64 0] 30)
    simpa only [World.size_alloc] using h
  · have h := (Boxed.new ((((w.alloc (.cells (fldL a cap x).toArray 26)).alloc (.cells #[.int .i64 s] 3)).alloc (.cells #[.int .i64 0] 3)).alloc (.cells #[.int .i64 0] 3)) 3 (.int .i64 0)).alloc (.cells #[.int .i64 0] 30)
    simpa only [World.size_alloc] using h
  · have h := Boxed.new (((((w.alloc (.cells (fldL a cap x).toArray 26)).alloc (.cells #[.int .i64 s] 3)).alloc (.cells #[.int .i64 0] 3)).alloc (.cells #[.int .i64 0] 3)).alloc (.cells #[.int .i64 0] 3)) 30 (.int .i64 0)
    simpa only [World.size_alloc] using h
theorem Top6.below {w W W' : World} {s e n k er : Int} (h : Top6 w s e n k er W) (hb : Below W.heap.size W W') : Top6 w s e n k er W' :=
  ⟨h.up.trans (hb.mono h.up.size), boxed_below h.s (Nat.le_refl _) hb, boxed_below h.e (Nat.le_refl _) hb, boxed_below h.n (Nat.le_refl _) hb, boxed_below h.k (Nat.le_refl _) hb, boxed_below h.er (Nat.le_refl _) hb⟩
theorem Top6.own (w : World) (B : Nat) (s e n k er : Int) (hB : w.heap.size ≤ B) : OwnFrom B (fun (_ : Unit) W => Top6 w s e n k er W) := by
  rintro _ W W' row ⟨h1, h2, h3, h4, h5, h6⟩ hg hr
  have hr2 : ∀ r, row = some r → ∃ o : Obj, W.heap[r]? = some o ∧ o.isCells = false := fun r e => (hr r e).2
  exact ⟨below_grow (B := B) h1 (Nat.le_refl _) hg hB (fun r e => (hr r e).1), boxed_own _ _ (fun _ => _) () W W' row h2 hg hr2, boxed_own _ _ (fun _ => _) () W W' row h3 hg hr2, boxed_own _ _ (fun _ => _) () W W' row h4 hg hr2, boxed_own _ _ (fun _ => _) () W W' row h5 hg hr2, boxed_own _ _ (fun _ => _) () W W' row h6 hg hr2⟩
theorem Top6.setE {w W : World} {s e n k er : Int} (h : Top6 w s e n k er W) (v : Int) : Top6 w s v n k er (W.setCell ⟨w.heap.size + 1 + 1, 0, none⟩ (.int .i64 v)) :=
  ⟨h.up.setCell (p := ⟨w.heap.size + 1 + 1, 0, none⟩) (by show w.heap.size ≤ w.heap.size + 1 + 1; omega) _, h.s.other (by omega) _, h.e.set _, h.n.other (by omega) _, h.k.other (by omega) _, h.er.other (by omega) _⟩
theorem Top6.setN {w W : World} {s e n k er : Int} (h : Top6 w s e n k er W) (v : Int) : Top6 w s e v k er (W.setCell ⟨w.heap.size + 1 + 1 + 1, 0, none⟩ (.int .i64 v)) :=
  ⟨h.up.setCell (p := ⟨w.heap.size + 1 + 1 + 1, 0, none⟩) (by show w.heap.size ≤ w.heap.size + 1 + 1 + 1; omega) _, h.s.other (by omega) _, h.e.other (by omega) _, h.n.set _, h.k.other (by omega) _, h.er.other (by omega) _⟩
theorem Top6.setK {w W : World} {s e n k er : Int} (h : Top6 w s e n k er W) (v : Int) : Top6 w s e n v er (W.setCell ⟨w.heap.size + 1 + 1 + 1 + 1, 0, none⟩ (.int .i64 v)) :=
  ⟨h.up.setCell (p := ⟨w.heap.size + 1 + 1 + 1 + 1, 0, none⟩) (by show w.heap.size ≤ w.heap.size + 1 + 1 + 1 + 1; omega) _, h.s.other (by omega) _, h.e.other (by omega) _, h.n.other (by omega) _, h.k.set _, h.er.other (by omega) _⟩
theorem Top6.setR {w W : World} {s e n k er : Int} (h : Top6 w s e n k er W) (v : Int) : Top6 w s e n k v (W.setCell ⟨w.heap.size + 1 + 1 + 1 + 1 + 1, 0, none⟩ (.int .i64 v)) :=
  ⟨h.up.setCell (p := ⟨w.heap.size + 1 + 1 + 1 + 1 + 1, 0, none⟩) (by show w.heap.size ≤ w.heap.size + 1 + 1 + 1 + 1 + 1; omega) _, h.s.other (by omega) _, h.e.other (by omega) _, h.n.other (by omega) _, h.k.other (by omega) _, h.er.set _⟩
/-- Where told ends a panic: all results as they stand. -/
theorem top6_end {w W : World} {s e n k : Int} {c : Int} (tm : Array Value) (h : Top6 w s e n k 0 W)
    (h4 : tm[4]?.getD undef = .pointer (some ⟨w.heap.size + 1 + 1, 0, none⟩)) (h5 : tm[5]?.getD undef = .pointer (some ⟨w.heap.size + 1 + 1 + 1, 0, none⟩)) (h6 : tm[6]?.getD undef = .pointer (some ⟨w.heap.size + 1 + 1 + 1 + 1, 0, none⟩)) (h7 : tm[7]?.getD undef = .pointer (some ⟨w.heap.size + 1 + 1 + 1 + 1 + 1, 0, none⟩)) :
    Leaves Try.prog Try.f14 tm (fun e' w' => e' = .returned (.tuple #[.int .i64 e, .int .i64 n, .int .i64 k, .int .i64 c]) ∧ Below w.heap.size w w') [{ target := .fn (.func 26) #[], args := #[.pointer (some ⟨w.heap.size + 1 + 1 + 1 + 1 + 1, 0, none⟩)] }] (.panicking [{ v := failure c, recovered := false }]) W := by
  refine leaves_cons (f := 26) (args := #[.pointer (some ⟨w.heap.size + 1 + 1 + 1 + 1 + 1, 0, none⟩)]) (by simp) (by simp [go_sem]) ?_
  refine (told_panic _ _ _ _ h.er.cell h.er.frozen).mono ?_
  rintro e' u' w'' ⟨rfl, rfl, rfl⟩
  have hz := (h.setR c).below (Up.alloc (.cells #[.int .i64 c] 95) (Up.refl _))
  have k1 := hz.e.cell; have k2 := hz.n.cell; have k3 := hz.k.cell; have k4 := hz.er.cell
  simp [Leaves, settle, results, Try.results14, go_sem, k1, k2, k3, k4, h4, h5, h6, h7]
  exact hz.up

set_option maxHeartbeats 2000000 in
theorem missing_bad (a : Option Addr) (cap : Nat) (x : Fld) (s : Int) (w : World) (hs : SlW 6 skyRow w (.slice a x.ps.length cap) x.ps) (hv : ¬ validB x = true) :
    Calls Try.prog 14 #[fldV a cap x, .int .i64 s] w fun e w' => e = .returned (.tuple #[.int .i64 0, .int .i64 0, .int .i64 0, .int .i64 1]) ∧ Below w.heap.size w w' := by
  have h6 := top6_is w a cap x s
  have HO := Lib.hid (open_bad a cap x (top6 w a cap x s) (hs.below (Nat.le_refl _) h6.up) (by simpa using hv))
  have htop : (((((w.alloc (.cells #[.slice a x.ps.length cap, .int .i64 x.e0, .int .i64 x.e1, .int .i64 x.n0, .int .i64 x.n1, .int .i64 x.d0, .int .i64 x.d1, .int .i64 x.depth, .int .i64 x.times, .int .i64 x.gap] 26)).alloc (.cells #[.int .i64 s] 3)).alloc (.cells #[.int .i64 0] 3)).alloc (.cells #[.int .i64 0] 3)).alloc (.cells #[.int .i64 0] 3)).alloc (.cells #[.int .i64 0] 30) = top6 w a cap x s := rfl
  have HT := Lib.hid htop; have H6 := Lib.hid h6
  clear htop hs h6
  unfold fldV at *
  go_enter_defers Try.func14, Try.ntmps14
  go_wp2_with fail
  rw [HT.out]
  generalize top6 w a cap x s = w0 at *
  refine HO.out.mono ?_
  rintro e w3 ⟨rfl, hb⟩
  have h := H6.out.below hb
  have H := Lib.hid h
  clear hb h
  go_wp2
  exact top6_end _ H.out rfl rfl rfl rfl

set_option maxHeartbeats 2000000 in
theorem missing_range (a : Option Addr) (cap : Nat) (x : Fld) (s : Int) (w : World) (hs : SlW 6 skyRow w (.slice a x.ps.length cap) x.ps) (hv : validB x = true) (hw : withinB s 0 (allN x : Int) = false) :
    Calls Try.prog 14 #[fldV a cap x, .int .i64 s] w fun e w' => e = .returned (.tuple #[.int .i64 0, .int .i64 0, .int .i64 0, .int .i64 2]) ∧ Below w.heap.size w w' := by
  have h6 := top6_is w a cap x s
  have HO := Lib.hid (openP_calls a cap x w _ hs hv h6.up)
  have htop : (((((w.alloc (.cells #[.slice a x.ps.length cap, .int .i64 x.e0, .int .i64 x.e1, .int .i64 x.n0, .int .i64 x.n1, .int .i64 x.d0, .int .i64 x.d1, .int .i64 x.depth, .int .i64 x.times, .int .i64 x.gap] 26)).alloc (.cells #[.int .i64 s] 3)).alloc (.cells #[.int .i64 0] 3)).alloc (.cells #[.int .i64 0] 3)).alloc (.cells #[.int .i64 0] 3)).alloc (.cells #[.int .i64 0] 30) = top6 w a cap x s := rfl
  have hlen := (valid_bounds hv).2.2.2.2.2.2.1
  have HT := Lib.hid htop; have H6 := Lib.hid h6; have HW := Lib.hid hw
  clear htop hs h6 hw
  unfold fldV at *
  go_enter_defers Try.func14, Try.ntmps14
  go_wp2_with fail
  rw [HT.out]
  generalize top6 w a cap x s = w0 at *
  refine HO.out.mono ?_
  rintro e w1 ⟨bf, rfl, hF, hb⟩
  have h := H6.out.below hb
  have hI := isSet_calls bf a cap x (w1.alloc (.cells #[.pointer (some ⟨bf, 0, none⟩)] 58)) s hlen _ _ (hF.1.choose_spec.choose_spec.1.below (Nat.le_refl _) (Up.alloc _ (Up.refl w1)))
  rw [HW.out] at hI
  have H := Lib.hid (h.below (Up.alloc (.cells #[.pointer (some ⟨bf, 0, none⟩)] 58) (Up.refl w1)))
  have HI := Lib.hid hI
  have cs := h.s.cell
  have ls := h.s.lt
  clear hb h hF hI
  go_wp2_with (first
    | (go_at_call 35; refine HI.out.mono ?_; rintro e w' ⟨rfl, rfl⟩)
    | (go_at_call 34; refine (must_false _ _).mono ?_; rintro e w' ⟨rfl, rfl⟩))
  exact top6_end _ H.out rfl rfl rfl rfl

/-- The first of them. -/
def firstP (l : List (Int × Int)) : Int × Int := l.headD (0, 0)
theorem missL_snoc (x : Fld) (s : Nat) (l : List (Int × Int)) (q : Int × Int) : missL x s (l ++ [q]) = if servesB x (atM x q &&& s) then missL x s l else missL x s l ++ [q] := by
  unfold missL
  rw [List.filter_append, List.filter_cons, List.filter_nil]
  cases servesB x (atM x q &&& s) <;> simp
theorem missL_len (x : Fld) (s : Nat) (l : List (Int × Int)) : (missL x s l).length ≤ l.length := List.length_filter_le _ _

/-- What the loop of Missing keeps. -/
structure MInv (w : World) (bf b8 mb : Nat) (m : Int × Int → Option Value) (a : Option Addr) (cap : Nat) (x : Fld) (s : Nat) (pre : List (Int × Int)) (W : World) : Prop where
  t : Top6 w (s : Int) (firstP (missL x s pre)).1 (firstP (missL x s pre)).2 ((missL x s pre).length : Int) 0 W
  f : FieldC W bf a cap x (usefulM x) mb
  m : MapIs W mb placeV m
  b : Boxed W b8 58 (.pointer (some ⟨bf, 0, none⟩))
theorem FieldC.kept {w w' : World} {bf : Nat} {a : Option Addr} {cap : Nat} {x : Fld} {um mb : Nat} (h : FieldC w bf a cap x um mb) (hs : w.heap.size ≤ w'.heap.size) (hc : ∀ o v, w.cell? ⟨bf, o, none⟩ = some v → w'.cell? ⟨bf, o, none⟩ = some v) : FieldC w' bf a cap x um mb :=
  ⟨Nat.lt_of_lt_of_le h.lt hs, hc _ _ h.c0, hc _ _ h.c1, hc _ _ h.c2, hc _ _ h.c3, hc _ _ h.c4, hc _ _ h.c5, hc _ _ h.c6, hc _ _ h.c7, hc _ _ h.c8, hc _ _ h.c9, hc _ _ h.c10, hc _ _ h.c11⟩
theorem MInv.own (w : World) (bf b8 mb : Nat) (m : Int × Int → Option Value) (a : Option Addr) (cap : Nat) (x : Fld) (s B : Nat) (hB : w.heap.size ≤ B) (hm : mb < B) : OwnFrom B (fun pre W => MInv w bf b8 mb m a cap x s pre W) := by
  rintro pre W W' row ⟨h1, h2, h3, h4⟩ hg hr
  have hr2 : ∀ r, row = some r → ∃ o : Obj, W.heap[r]? = some o ∧ o.isCells = false := fun r e => (hr r e).2
  exact ⟨Top6.own w B _ _ _ _ _ hB () W W' row h1 hg hr, h2.kept hg.size (fun o v hv => cell_kept hv hg hr2), h3.grow (B := B) hm hg (fun r e => (hr r e).1), boxed_own _ _ (fun _ => _) () W W' row h4 hg hr2⟩

end Go.Proofs.Ytlfemkelnllmnaa
