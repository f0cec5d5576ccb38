/- cover.places, cover.kinds: the sets of plates that have places, each one once. -/
import Derived.Test.YtlfemkelnllmnaaIter
import Derived.RangeFuncBox
import Derived.RangeFuncCalls
import Derived.Maps.AppendAt
import Derived.Shelf.Abstract
set_option linter.all false
set_option linter.unusedVariables false
set_option linter.unusedSimpArgs false
namespace Go.Proofs.Ytlfemkelnllmnaa
open Go.RowKit Go.Shelf
attribute [local go_sem] Oper.semAt_some

theorem flatMap_at {α : Type} {E : Nat} (row : α → List Value) (hE : ∀ x, (row x).length = E) : ∀ (l : List α) (k : Nat) (hk : k < l.length) (j : Nat) (hj : j < (row l[k]).length), (l.flatMap row)[k * E + j]? = some (row l[k])[j]
  | x :: l, 0, hk, j, hj => by
    simp only [List.flatMap_cons, List.getElem_cons_zero, Nat.zero_mul, Nat.zero_add]
    rw [List.getElem?_append_left (by simpa using hj)]
    simp
  | x :: l, k + 1, hk, j, hj => by
    simp only [List.flatMap_cons, List.getElem_cons_succ] at hj ⊢
    rw [List.getElem?_append_right (by rw [hE, Nat.succ_mul]; omega), hE, show (k + 1) * E + j - E = k * E + j from by rw [Nat.succ_mul]; omega]
    exact flatMap_at row hE l k (by simpa using hk) j hj
/-- A slice of the call's own reads as what was put into it. -/
theorem slW_of_owns {α : Type} {E : Nat} {row : α → List Value} (hE : ∀ x, (row x).length = E) {w : World} {base : Nat} {e : TypeId} {v : Value} {l : List α} (h : w.ownsRow base e E v l.length (l.flatMap row)) : SlW E row w v l := by
  have h' := h
  obtain ⟨_, h2⟩ := h
  rcases h2 with ⟨rfl, h0⟩ | ⟨g, cap, cur, rfl, hB, hg, hcap, hmax, _, _⟩
  · obtain rfl : l = [] := List.length_eq_zero_iff.1 h0
    exact SlW.nil _ _ _
  · refine ⟨_, cap, rfl, by unfold maxLen at hmax; omega, .inr ⟨g, 0, rfl, (Array.getElem?_eq_some_iff.1 hg).1, fun k hk j hj => ?_⟩⟩
    have hj2 : j < E := by rw [← hE l[k]]; exact hj
    have hlt : k * E + j < l.length * E := Nat.lt_of_lt_of_le (by rw [Nat.succ_mul]; omega : k * E + j < (k + 1) * E) (Nat.mul_le_mul_right _ hk)
    rw [Nat.zero_add, World.ownsRow.cellAt h' _ hlt]
    exact flatMap_at row hE l k hk j hj

/-- The sets of plates that have places, each one once, in the order in which they come. -/
def kindsOf (x : Fld) (l : List (Int × Int)) : List Nat := l.foldl (fun l q => if atM x q ∈ l then l else l ++ [atM x q]) []

set_option maxHeartbeats 1000000 in
theorem places_calls (bf : Nat) (w : World) :
    Calls Try.prog 36 #[.pointer (some ⟨bf, 0, none⟩)] w fun e w' => e = .returned (.func (.func 58) #[] #[.pointer (some ⟨w.heap.size, 0, none⟩)]) ∧ w.alloc (.cells #[.pointer (some ⟨bf, 0, none⟩)] 58) = w' := by
  go_enter Try.func36, Try.ntmps36
  go_wp2
  go_ret
  exact ⟨rfl, rfl⟩

theorem Try.infoSet : (Try.prog.info? 61).map (fun i => (i.zero, i.size, i.bytes)) = some (some (.int .u64 0), 1, 8) := by kernel_rfl

/-- The set that is built: each kind that has come. -/
def seenM (l : List Nat) : Nat → Option Value := fun s => if s ∈ l then some (.bool true) else none
theorem kinds_snoc (x : Fld) (l : List (Int × Int)) (q : Int × Int) : kindsOf x (l ++ [q]) = if atM x q ∈ kindsOf x l then kindsOf x l else kindsOf x l ++ [atM x q] := by
  unfold kindsOf; rw [List.foldl_append]; rfl
theorem row_len (a : Int) : ∀ (n : Nat) (b : Int), (rowL a b n).length = n
  | 0, _ => rfl
  | n + 1, b => by simp [rowL, row_len a n]
theorem grid_len (b : Int) (m : Nat) : ∀ (n : Nat) (a : Int), (gridL a b m n).length = n * m
  | 0, _ => by simp [gridL]
  | n + 1, a => by rw [gridL, List.length_append, row_len, grid_len b m n, Nat.succ_mul, Nat.add_comm]
theorem places_len {x : Fld} (h : validB x = true) : (placesL x).length ≤ 1089 := by
  obtain ⟨⟨h1, h2, h3⟩, ⟨h4, h5, h6⟩, _⟩ := valid_bounds h
  unfold placesL
  rw [grid_len]
  exact Nat.le_trans (Nat.mul_le_mul (show (x.e1 - x.e0 + 1).toNat ≤ 33 by omega) (show (x.n1 - x.n0 + 1).toNat ≤ 33 by omega)) (by omega)
theorem kinds_len (x : Fld) (l : List (Int × Int)) : (kindsOf x l).length ≤ l.length := by
  have : ∀ (l : List (Int × Int)) (acc : List Nat), (l.foldl (fun l q => if atM x q ∈ l then l else l ++ [atM x q]) acc).length ≤ acc.length + l.length := by
    intro l
    induction l with
    | nil => simp
    | cons q l ih =>
      intro acc
      refine Nat.le_trans (ih _) ?_
      simp only [List.length_cons]
      split <;> simp <;> omega
  have h := this l []
  simpa [kindsOf] using h

/-- Between two rounds of kinds. -/
structure KInv (w : World) (n bf : Nat) (x : Fld) (pre : List (Int × Int)) (W : World) : Prop where
  up : Below n w W
  b1 : Boxed W n 58 (.pointer (some ⟨bf, 0, none⟩))
  b3 : Boxed W (n + 1 + 1 + 1) 107 (.map (some (n + 1 + 1)))
  b4 : Boxed W (n + 1 + 1 + 1 + 1) 58 (.pointer (some ⟨bf, 0, none⟩))
  res : ∃ v, Boxed W (n + 1) 80 v ∧ W.ownsRow n 61 1 v (kindsOf x pre).length ((kindsOf x pre).map fun s : Nat => Value.int .u64 (s : Int))
  seen : MapIs W (n + 1 + 1) (fun s : Nat => Value.int .u64 (s : Int)) (seenM (kindsOf x pre))

theorem MapIs.grow {κ : Type} [DecidableEq κ] {w w' : World} {b B : Nat} {ke : κ → Value} {m : κ → Option Value} {row : Option Nat} (h : MapIs w b ke m) (hb : b < B) (hg : w.grownBy w' row) (hr : ∀ r, row = some r → B ≤ r) : MapIs w' b ke m :=
  h.of_heap (hg.block b h.lt (fun e => by have := hr b e.symm; omega))
theorem MapIs.not_row {κ : Type} [DecidableEq κ] {w : World} {b : Nat} {ke : κ → Value} {m : κ → Option Value} (h : MapIs w b ke m) {base e size k : Nat} {v : Value} {xs : List Value} (hr : w.ownsRow base e size v k xs) : some b ≠ v.ownBlock := by
  obtain ⟨o, ho, hc⟩ := h.isMap
  rcases hr.2 with ⟨rfl, _⟩ | ⟨g, cap, cur, rfl, _, hgb, _⟩
  · simp [Value.ownBlock]
  · intro e'
    obtain rfl : b = g := by simpa [Value.ownBlock] using e'
    rw [hgb] at ho; cases ho; cases hc
theorem below_grow {n : Nat} {w W W' : World} {B : Nat} {row : Option Nat} (h : Below n w W) (hn : n ≤ w.heap.size) (hg : W.grownBy W' row) (hB : n ≤ B) (hr : ∀ r, row = some r → B ≤ r) : Below n w W' :=
  h.grown hg (Nat.le_trans hn h.size) (fun k e => Nat.le_trans hB (hr k e))

theorem KInv.own (w : World) (n bf B : Nat) (x : Fld) (hn : n ≤ w.heap.size) (hB : n + 1 + 1 + 1 ≤ B) : OwnFrom B (fun pre W => KInv w n bf x pre W) := by
  rintro pre W W' row ⟨h1, h2, h3, h4, ⟨v, h5, h6⟩, h7⟩ hg hr
  have hr2 : ∀ r, row = some r → ∃ o : Obj, W.heap[r]? = some o ∧ o.isCells = false := fun r e => (hr r e).2
  obtain ⟨v', h5', h6', _⟩ := holdsRow_own n (n + 1) 80 61 1 (fun pre => (kindsOf x pre).length) (fun pre => (kindsOf x pre).map fun s : Nat => Value.int .u64 (s : Int)) (fun _ _ => True) pre W W' row ⟨v, h5, h6, trivial⟩ hg hr2
  exact ⟨below_grow (B := B) h1 hn hg (by omega) (fun r e => (hr r e).1), boxed_own _ _ (fun _ => _) () W W' row h2 hg hr2, boxed_own _ _ (fun _ => _) () W W' row h3 hg hr2, boxed_own _ _ (fun _ => _) () W W' row h4 hg hr2, ⟨v', h5', h6'⟩, h7.grow (B := B) (by omega) hg (fun r e => (hr r e).1)⟩

/-- The loop's variable: a place in a box of its own. -/
def PlaceAx (B : Nat) (f : Int × Int → Nat → Act) (q : Int × Int) (a : Act) (W : World) : Prop :=
  ∃ b, B ≤ b ∧ b < W.heap.size ∧ W.cell? ⟨b, 0, none⟩ = some (.int .i64 q.1) ∧ W.cell? ⟨b, 1, none⟩ = some (.int .i64 q.2) ∧ a = f q b
theorem placeAx_own (B B' : Nat) (f : Int × Int → Nat → Act) (q : Int × Int) (a : Act) : OwnFrom B' (fun (_ : Unit) W => PlaceAx B f q a W) := by
  rintro _ W W' row ⟨b, h1, h2, h3, h4, h5⟩ hg hr
  have hr2 : ∀ r, row = some r → ∃ o : Obj, W.heap[r]? = some o ∧ o.isCells = false := fun r e => (hr r e).2
  exact ⟨b, h1, Nat.lt_of_lt_of_le h2 hg.size, cell_kept h3 hg hr2, cell_kept h4 hg hr2, h5⟩

theorem GW.grown {W : World} (g : GW W.heap.size W) : W.grownBy g.w none := ⟨g.h.os, g.h.tape, g.h.output, g.h.size, fun k hk _ => g.h.block k hk⟩
theorem GW.keeps {W : World} (B : Nat) (g : GW W.heap.size W) : KeepsFrom B W g.w := KeepsFrom.of_grownBy g.grown (fun j e => by cases e)
theorem GW.kpB {W : World} {n b : Nat} (g : GW W.heap.size W) (hn : n ≤ W.heap.size) : KpB n b W g.w := ⟨g.h.mono hn, fun v hv => cell_kept hv g.grown (fun r e => by cases e)⟩

set_option maxHeartbeats 2000000 in
set_option maxRecDepth 10000 in
theorem kinds_calls (bf : Nat) (a : Option Addr) (cap : Nat) (x : Fld) (w : World) (hv : validB x = true) (hF : FieldW w bf a cap x) :
    Calls Try.prog 39 #[.pointer (some ⟨bf, 0, none⟩)] w fun e w' => ∃ v, e = .returned v ∧ SlW 1 setRow w' v (kindsOf x (placesL x)) ∧ Below w.heap.size w w' := by
  obtain ⟨mb, m, hf, hm, hq⟩ := hF
  have hbl := hf.lt
  obtain ⟨i0, hi, hz0, hz1, hz2⟩ := info_parts Try.infoSet
  refine (callsIn_wide (n := 9)).1 ?_
  refine callsIn_of_wp_marks Try.func39 rfl trivial ?_ rfl
  simp only [Try.ntmps39, List.size_toArray, List.length_cons, List.length_nil, Nat.reduceAdd, Nat.reduceSub, Array.replicate_succ, Array.replicate_zero, List.push_toArray, List.append_toArray, List.nil_append, List.cons_append]
  gi_wp2_with (refine ⟨trivial, ?_⟩; gi_at_call 36; refine (callsIn_wide.2 (places_calls _ _)).mono ?_; rintro e w' ⟨rfl, rfl⟩)
  have hup0 : Below w.heap.size w (((((w.alloc (.cells #[.pointer (some ⟨bf, 0, none⟩)] 58)).alloc (.cells #[.slice none 0 0] 80)).alloc (.map #[] 0)).alloc (.cells #[.map (some (w.heap.size + 1 + 1))] 107)).alloc (.cells #[.pointer (some ⟨bf, 0, none⟩)] 58)) :=
    Up.alloc _ (Up.alloc _ (Up.alloc _ (Up.alloc _ (Up.alloc _ (Up.refl _)))))
  refine wpIn_rangeFunc_ownH (F := Fence.wide) (n := 9) rfl (by omega) (gf := 58) (lb := #[.pointer (some ⟨w.heap.size + 1 + 1 + 1 + 1, 0, none⟩)]) rfl trivial (enters_of Try.func58 (by kernel_rfl) rfl)
    (places1_stops 8 (by omega) (w.heap.size + 1 + 1 + 1 + 1) bf w.heap.size a cap x (usefulM x) mb _ hv (hf.below (Nat.le_refl _) hup0) hbl (by simp) hup0.size (by go_simp)) kpB_t (kpB_b hup0.size) (Below.refl _ _) (fun _ => rfl)
    (fun pre W => KInv w w.heap.size bf x pre W) (fun _ _ _ => False) (KInv.own w w.heap.size bf _ x (Nat.le_refl _) (by simp)) (fun _ _ _ _ _ hs _ _ => hs) ?start
    (PlaceAx (w.heap.size + 1 + 1 + 1 + 1 + 1) (fun q b => { tmps := #[.pointer (some ⟨bf, 0, none⟩), .pointer (some ⟨w.heap.size, 0, none⟩), .pointer (some ⟨w.heap.size + 1, 0, none⟩), .pointer (some ⟨w.heap.size + 1 + 1 + 1, 0, none⟩), .pointer (some ⟨b, 0, none⟩), undef, .map (some (w.heap.size + 1 + 1)), .pointer (some ⟨bf, 0, none⟩), .func (.func 58) #[] #[.pointer (some ⟨w.heap.size + 1 + 1 + 1 + 1, 0, none⟩)], placeV q, undef, undef, undef, undef, undef, undef, undef, undef, undef, undef, undef, undef, undef, undef, undef, undef, undef], defers := [] })) (placeAx_own _ _ _) ?assign ?body ?done ?stop
  case assign =>
    intro l pre q W K hI hK
    dsimp only [encPl, placeV]
    gi_wp2
    refine hK _ _ ((KeepsOthers.alloc _ _).from _) ⟨(Below.refl _ _).alloc (Nat.le_trans (Nat.le_refl _) hI.up.size) _, fun v hv => cell_kept hv (World.grownBy_alloc _ _ none) (fun r e => by cases e)⟩ ?_ ⟨W.heap.size, ?_, by simp, by go_simp, by go_simp, rfl⟩
    · exact KInv.own w w.heap.size bf _ x (Nat.le_refl _) (Nat.le_refl _) pre W _ none hI (World.grownBy_alloc _ _ _) (fun r e => by cases e)
    · have := hI.b4.lt; omega
  case start =>
    refine ⟨hup0, ?_, ?_, ?_, ⟨.slice none 0 0, ?_, World.ownsRow_nil _ _ _ _⟩, ?_⟩
    · exact ((((Boxed.new w 58 _).alloc _).alloc _).alloc _).alloc _
    · have h := (Boxed.new (((w.alloc (.cells #[.pointer (some ⟨bf, 0, none⟩)] 58)).alloc (.cells #[.slice none 0 0] 80)).alloc (.map #[] 0)) 107 (.map (some (w.heap.size + 1 + 1)))).alloc (.cells #[.pointer (some ⟨bf, 0, none⟩)] 58)
      simpa using h
    · have h := Boxed.new ((((w.alloc (.cells #[.pointer (some ⟨bf, 0, none⟩)] 58)).alloc (.cells #[.slice none 0 0] 80)).alloc (.map #[] 0)).alloc (.cells #[.map (some (w.heap.size + 1 + 1))] 107)) 58 (.pointer (some ⟨bf, 0, none⟩))
      simpa using h
    · have h := (((Boxed.new (w.alloc (.cells #[.pointer (some ⟨bf, 0, none⟩)] 58)) 80 (.slice none 0 0)).alloc (.map #[] 0)).alloc (.cells #[.map (some (w.heap.size + 1 + 1))] 107)).alloc (.cells #[.pointer (some ⟨bf, 0, none⟩)] 58)
      simpa using h
    · have h := MapIs.made (w := (w.alloc (.cells #[.pointer (some ⟨bf, 0, none⟩)] 58)).alloc (.cells #[.slice none 0 0] 80)) (ke := fun s : Nat => Value.int .u64 (s : Int))
      simp only [World.size_alloc] at h
      have h2 : seenM (kindsOf x []) = fun _ => none := by funext s; simp [seenM, kindsOf]
      rw [h2]
      exact h.of_heap ((Below.heap_alloc _ _ _ (by simp)).trans (Below.heap_alloc _ _ _ (by simp)))
  case body =>
    rintro l pre q a' W hl ⟨r, hr⟩ hI ⟨b, hbB, hbl2, q1, q2, rfl⟩ hlen
    have hI' := hI
    obtain ⟨hup, x1, x3, x4, ⟨v, hbv, hrow⟩, hseen⟩ := hI'
    have b1 := x1.cell
    have b3 := x3.cell
    have b4 := x4.cell
    clear x1 x3 x4
    have hcv := hbv.cell
    have hcf := hbv.frozen
    have hvl := hbv.lt
    have e11 : W.cell? ⟨bf, 11, none⟩ = some (.map (some mb)) := (hup.cell (p := ⟨bf, 11, none⟩) hbl).trans hf.c11
    have hz : ∀ w, (zeroValue 61).run Try.prog w = .ok (.int .u64 0) w := fun w => Try.zeroValue61 w
    have hmb := hm.lt
    have hlk : ∀ g : GW W.heap.size W, (Instr.lookup 77 (.map (some mb)) (.agg #[.int .i64 q.1, .int .i64 q.2]) false).run Try.prog g.w = .ok (.int .u64 (atM x q : Int)) g.w := fun g => by
      have h1 : MapIs g.w mb placeV m := hm.of_heap ((g.h.block mb (Nat.lt_of_lt_of_le hmb hup.size)).trans (hup.block mb hmb))
      have h2 := h1.lookup placeKeys Try.underlying77 hz q
      rw [hq q] at h2
      exact h2
    have hbl3 : bf < W.heap.size := Nat.lt_of_lt_of_le hbl hup.size
    have hl5 := hl
    simp only [World.size_alloc] at hl5
    have hwl : l < W.heap.size := (Array.getElem?_eq_some_iff.1 hr).1
    have n0 : w.heap.size < W.heap.size := by omega
    have n1 : w.heap.size + 1 < W.heap.size := by omega
    have n3 : w.heap.size + 1 + 1 + 1 < W.heap.size := by omega
    have hz2b : ∀ w, (zeroValue 4).run Try.prog w = .ok (.bool false) w := fun w => Try.zeroValue4 w
    have hsg : ∀ g : GW W.heap.size W, MapIs g.w (w.heap.size + 1 + 1) (fun s : Nat => Value.int .u64 (s : Int)) (seenM (kindsOf x pre)) := fun g => hseen.of_heap (g.h.block _ hseen.lt)
    have hlk2 : ∀ g : GW W.heap.size W, (Instr.lookup 107 (.map (some (w.heap.size + 1 + 1))) (.int .u64 (atM x q : Int)) false).run Try.prog g.w = .ok (.bool (decide (atM x q ∈ kindsOf x pre))) g.w := fun g => by
      have h2 := (hsg g).lookup setKeys Try.underlying107 hz2b (atM x q)
      have h3 : (seenM (kindsOf x pre) (atM x q)).getD (.bool false) = .bool (decide (atM x q ∈ kindsOf x pre)) := by
        unfold seenM; split <;> simp [*]
      rw [h3] at h2
      exact h2
    have HSG := Lib.hid hsg; clear hsg
    have HQ := Lib.hid hq; have HR := Lib.hid hrow; have HS := Lib.hid hseen; have HI := Lib.hid hI; have HL := Lib.hid hr
    have HLEN := Lib.hid hlen
    clear hq hrow hseen hI hr hf hbv hm hlen
    have hsn := kinds_snoc x pre q
    generalize hk2 : kindsOf x (pre ++ [q]) = kn at hsn
    have HKN := Lib.hid hk2; clear hk2
    generalize atM x q = sq at *
    by_cases hmem : sq ∈ kindsOf x pre
    · simp only [hmem, decide_true] at hlk2
      rw [if_pos hmem] at hsn
      have HSN := Lib.hid hsn; have HMEM := Lib.hid hmem
      clear hsn hmem
      dsimp only [placeV]
      gi_wp2
      refine GW.regionR W (by kernel_rfl) (by kernel_rfl) (by kernel_rfl) (Up.refl _) ?_
      repeat (go_big_quiet_step (fail))
      refine wpQuiet_nil ?_
      rintro _ ⟨g, rfl⟩
      gi_wp2
      exact ⟨g.keeps _, g.kpB (by omega), by
        have h := KInv.own w w.heap.size bf _ x (Nat.le_refl _) (Nat.le_refl _) pre W g.w none HI.out g.grown (fun r e => by cases e)
        have e1 : kindsOf x (pre ++ [q]) = kindsOf x pre := HKN.out.trans HSN.out
        exact ⟨h.up, h.b1, h.b3, h.b4, by rw [e1]; exact h.res, by rw [e1]; exact h.seen⟩⟩
    · simp only [hmem, decide_false] at hlk2
      rw [if_neg hmem] at hsn
      have HSN := Lib.hid hsn; have HMEM := Lib.hid hmem
      clear hsn hmem
      dsimp only [placeV]
      gi_wp2
      refine GW.regionR W (by kernel_rfl) (by kernel_rfl) (by kernel_rfl) (Up.refl _) ?_
      repeat (go_big_quiet_step (fail))
      refine wpQuiet_nil ?_
      rintro _ ⟨g, rfl⟩
      obtain ⟨o, hupd, hoc, hnx⟩ := (HSG.out g).update setKeys Try.underlying107 sq (.bool true)
      have hI2 := KInv.own w w.heap.size bf _ x (Nat.le_refl _) (Nat.le_refl _) pre W g.w none HI.out g.grown (fun r e => by cases e)
      obtain ⟨om, hom, homc⟩ := hI2.seen.isMap
      have hgs := hI2.up.size
      have hW2 : ∀ a, (g.w.putObj (w.heap.size + 1 + 1) o).cell? a = g.w.cell? a := putObj_cell hom homc hoc
      have hZ2 : ∀ a, (g.w.putObj (w.heap.size + 1 + 1) o).frozen? a = g.w.frozen? a := putObj_frozen hom homc hoc
      obtain ⟨v2, hbv, hrow⟩ := hI2.res
      have hv2 : Boxed (g.w.putObj (w.heap.size + 1 + 1) o) (w.heap.size + 1) 80 v2 := (World.putObj_heap_other (by omega)).trans hbv
      have hrow2 := ownsRow_putObj hrow o hom homc
      have hs2 : W.heap.size ≤ (g.w.putObj (w.heap.size + 1 + 1) o).heap.size := by rw [World.putObj_size]; exact g.h.size
      have hseen2 := hnx (g.w.putObj (w.heap.size + 1 + 1) o) (World.putObj_heap_same hI2.seen.lt)
      have hx1 : Boxed (g.w.putObj (w.heap.size + 1 + 1) o) w.heap.size 58 (.pointer (some ⟨bf, 0, none⟩)) := (World.putObj_heap_other (by omega)).trans hI2.b1
      have hx3 : Boxed (g.w.putObj (w.heap.size + 1 + 1) o) (w.heap.size + 1 + 1 + 1) 107 (.map (some (w.heap.size + 1 + 1))) := (World.putObj_heap_other (by omega)).trans hI2.b3
      have hx4 : Boxed (g.w.putObj (w.heap.size + 1 + 1) o) (w.heap.size + 1 + 1 + 1 + 1) 58 (.pointer (some ⟨bf, 0, none⟩)) := (World.putObj_heap_other (by omega)).trans hI2.b4
      have hb12 := hx1.cell
      have hb32 := hx3.cell
      have hb42 := hx4.cell
      have HX1 := Lib.hid hx1; have HX3 := Lib.hid hx3; have HX4 := Lib.hid hx4
      clear hx1 hx3 hx4
      have hup2 : Below w.heap.size w (g.w.putObj (w.heap.size + 1 + 1) o) := hI2.up.trans (putObj_below o (by omega))
      have hkf2 : KeepsFrom (w.heap.size + 1 + 1 + 1 + 1 + 1) W (g.w.putObj (w.heap.size + 1 + 1) o) := (g.keeps _).trans (KeepsFrom.of_grownBy (grownBy_putObj' _ _ _) (fun j e => by cases e; omega))
      have hkp2 : KpB w.heap.size (w.heap.size + 1 + 1 + 1 + 1) W (g.w.putObj (w.heap.size + 1 + 1) o) := kpB_t (g.kpB (by omega)) ⟨putObj_below o (by omega), fun v hv => (hW2 _).trans hv⟩
      have hc2 := hv2.cell
      have hf2 := hv2.frozen
      have HC := Lib.hid hrow2; have HS3 := Lib.hid hseen2; have HV2 := Lib.hid hv2
      clear hW2 hZ2 hnx hI2 hom hbv hrow hrow2 hseen2 hv2 hup
      generalize g.w.putObj (w.heap.size + 1 + 1) o = W2 at *
      have hlen2 : (kindsOf x pre).length < 4000 := by have := kinds_len x pre; have := HLEN.out; have := places_len hv; omega
      gi_wp2_with (gi_at_builtin; go_must (refine wpListIn_append_own _ rfl _ _ 80 rfl w.heap.size 61 i0 (.int .u64 0) 1 8 Try.underlying80 hi hz0 hz1 hz2 rfl (by decide) _ _ _ rfl (HC.out.alloc _) ⟨W2.heap.size, 0, none⟩ 1 1 [.int .u64 (sq : Int)] rfl rfl (cell_one_new _ _ _) (by simp [Value.oneCell']) (by unfold maxLen; omega) (by omega) (by simp <;> omega) ?_); intro v' w1 hown' hgrow _; obtain ⟨g', cap', rfl⟩ := ownsRow_succ hown'; obtain ⟨hv1, hv2, hr2, hk2, hb2⟩ := HV2.out.appended (by decide) HC.out hup2.size (by omega) hown' hgrow; have hc1 := hv1.cell; have hf1 := hv1.frozen)
      have e1 : kindsOf x (pre ++ [q]) = kindsOf x pre ++ [sq] := HKN.out.trans HSN.out
      have y1 := ((HX1.out.alloc (.cells #[.int .u64 (sq : Int)] 61)).kept hgrow (HX1.out.not_row (by decide) HC.out)).other (B' := w.heap.size + 1) (by omega) (.slice (some ⟨g', 0, none⟩) ((kindsOf x pre).length + 1) cap')
      have y3 := ((HX3.out.alloc (.cells #[.int .u64 (sq : Int)] 61)).kept hgrow (HX3.out.not_row (by decide) HC.out)).other (B' := w.heap.size + 1) (by omega) (.slice (some ⟨g', 0, none⟩) ((kindsOf x pre).length + 1) cap')
      have y4 := ((HX4.out.alloc (.cells #[.int .u64 (sq : Int)] 61)).kept hgrow (HX4.out.not_row (by decide) HC.out)).other (B' := w.heap.size + 1) (by omega) (.slice (some ⟨g', 0, none⟩) ((kindsOf x pre).length + 1) cap')
      have ym : MapIs (w1.setCell ⟨w.heap.size + 1, 0, none⟩ (.slice (some ⟨g', 0, none⟩) ((kindsOf x pre).length + 1) cap')) (w.heap.size + 1 + 1) (fun s : Nat => Value.int .u64 (s : Int)) (seenM (kindsOf x pre ++ [sq])) := by
        have h1 := HS3.out
        have h2 : (w1.setCell ⟨w.heap.size + 1, 0, none⟩ (.slice (some ⟨g', 0, none⟩) ((kindsOf x pre).length + 1) cap')).heap[w.heap.size + 1 + 1]? = W2.heap[w.heap.size + 1 + 1]? := by
          rw [Below.heap_setCell _ _ _ _ (by simp)]
          rw [hgrow.block (w.heap.size + 1 + 1) (by have := h1.lt; simp; omega) (h1.not_row HC.out), Below.heap_alloc _ _ _ h1.lt]
        have h3 := h1.of_heap h2
        have h4 : upd (seenM (kindsOf x pre)) sq (.bool true) = seenM (kindsOf x pre ++ [sq]) := by
          funext s
          unfold upd seenM
          by_cases hs : s = sq
          · simp [hs]
          · simp [hs]
        rw [← h4]; exact h3
      refine ⟨by have h := hkf2.trans (hk2.from _); simpa using h, kpB_t hkp2 ⟨hb2, fun u hu => ?_⟩, ⟨hup2.trans hb2, y1, y3, y4, ?_, ?_⟩⟩
      · have := HX4.out.cell
        rw [this] at hu
        rw [y4.cell]; exact hu
      · rw [e1]
        refine ⟨_, hv2, ?_⟩
        rw [List.length_append, List.map_append]
        exact hr2
      · rw [e1]; exact ym
  case done =>
    rintro D ys W hD rfl hI hK
    obtain ⟨hup, x1, x3, x4, ⟨v, hbv, hrow⟩, _⟩ := hI
    have hc := hbv.cell
    have hf := hbv.frozen
    have hbv2 := hbv.set v
    have hrow3 : (W.setCell ⟨w.heap.size + 1, 0, none⟩ v).ownsRow w.heap.size 61 1 v (kindsOf x (placesL x)).length ((kindsOf x (placesL x)).map fun s : Nat => Value.int .u64 (s : Int)) := hrow.kept (grownBy_setCell' W _ v) (.inr (hbv.not_row (by decide) hrow).symm)
    have hK2 : (W.setCell ⟨w.heap.size + 1, 0, none⟩ v).heap[D]? = some (.deferred (some [])) := (Below.heap_setCell _ _ _ _ (by simp at hD ⊢; omega)).trans hK
    have hup3 : Below w.heap.size w (W.setCell ⟨w.heap.size + 1, 0, none⟩ v) := hup.setCell (by simp) v
    have hfin : SlW 1 setRow ((W.setCell ⟨w.heap.size + 1, 0, none⟩ v).putObj D (.deferred none)) v (kindsOf x (placesL x)) := by
      have h1 := ownsRow_putObj hrow3 (.deferred none) hK2 rfl
      rw [show ((kindsOf x (placesL x)).map fun s : Nat => Value.int .u64 (s : Int)) = (kindsOf x (placesL x)).flatMap setRow from by rw [List.flatMap_def]; induction kindsOf x (placesL x) with
        | nil => rfl
        | cons a l ih => simp [setRow, ih]] at h1
      exact slW_of_owns (E := 1) (row := setRow) (fun _ => rfl) h1
    have hcell4 : ((W.setCell ⟨w.heap.size + 1, 0, none⟩ v).putObj D (.deferred none)).cell? ⟨w.heap.size + 1, 0, none⟩ = some v := cell_kept hbv2.cell (grownBy_putObj' _ D (.deferred none)) (fun r e => by cases e; exact ⟨_, hK2, rfl⟩)
    have hup4 := hup3.trans (putObj_below (.deferred none) (show w.heap.size ≤ D by simp at hD; omega))
    have HR := Lib.hid hrow; have HF := Lib.hid hfin; have H4 := Lib.hid hcell4; have HU := Lib.hid hup4; have HK2 := Lib.hid hK2
    clear hfin hcell4 hup4 hK2 hbv2 hrow3 hup3 hK hup x1 x3 x4 hbv hrow
    rcases HR.out.2 with ⟨rfl, _⟩ | ⟨g, cap', cur, rfl, _, _, _⟩
    all_goals
      gi_wp2
      refine ⟨by simp, .inl ⟨_, _, rfl, run_takeDeferred HK2.out, ?_⟩⟩
      have h4 := H4.out
      exact ⟨_, by simp [results, Try.results39, go_sem, h4], _, rfl, HF.out, HU.out⟩
  case stop =>
    rintro D c pre W _ _ h _
    exact h.elim
end Go.Proofs.Ytlfemkelnllmnaa
