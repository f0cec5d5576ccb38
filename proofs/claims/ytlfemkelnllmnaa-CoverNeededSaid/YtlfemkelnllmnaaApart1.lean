/- cover.Apart: what the loop keeps. -/
import Derived.Test.YtlfemkelnllmnaaApart0
import Derived.Test.YtlfemkelnllmnaaMissing
set_option linter.all false
set_option linter.unusedVariables false
set_option linter.unusedSimpArgs false
namespace Go.Proofs.Ytlfemkelnllmnaa
open Go.RowKit
attribute [local go_sem] Oper.semAt_some

/-- A list of places as cells. -/
def flat2 (l : List (Int × Int)) : List Value := l.flatMap fun q => [.int .i64 q.1, .int .i64 q.2]
/-- What Apart says. -/
def apartV (x : Fld) : List (Int × Int) × Int := if validB x then (if listB x (usefulM x) then ((apartL x (placesL x)).1, 0) else ([], 4)) else ([], 1)
theorem flat2_snoc (l : List (Int × Int)) (q : Int × Int) : flat2 (l ++ [q]) = flat2 l ++ [.int .i64 q.1, .int .i64 q.2] := by simp [flat2]
theorem flat2_cell (l : List (Int × Int)) : ∀ u ∈ flat2 l, u.oneCell' = true := by
  intro u hu
  simp only [flat2, List.mem_flatMap, List.mem_cons, List.not_mem_nil, or_false] at hu
  obtain ⟨q, _, rfl | rfl⟩ := hu <;> simp [Value.oneCell']
theorem apart_snoc (x : Fld) (l : List (Int × Int)) (q : Int × Int) : apartL x (l ++ [q]) = apartStep x (apartL x l) q := by unfold apartL; rw [List.foldl_append]; rfl
theorem apart_len (x : Fld) (l : List (Int × Int)) : (apartL x l).1.length ≤ l.length := by
  have : ∀ (l : List (Int × Int)) (st : List (Int × Int) × Nat), (l.foldl (apartStep x) st).1.length ≤ st.1.length + l.length := by
    intro l
    induction l with
    | nil => simp
    | cons q l ih =>
      intro st
      refine Nat.le_trans (ih _) ?_
      unfold apartStep
      split <;> simp <;> omega
  have h := this l ([], allN x)
  simpa [apartL] using h
theorem apart_free {x : Fld} (hv : x.ps.length ≤ 12) (l : List (Int × Int)) : (apartL x l).2 < 4096 := by
  have : ∀ (l : List (Int × Int)) (st : List (Int × Int) × Nat), st.2 < 4096 → (l.foldl (apartStep x) st).2 < 4096 := by
    intro l
    induction l with
    | nil => exact fun _ h => h
    | cons q l ih =>
      intro st h
      refine ih _ ?_
      unfold apartStep
      split
      · exact minusN_lt h
      · exact h
  exact this l _ (by have := allN_lt hv; simp; omega)

/-- But for some blocks all of w is as it was. -/
structure SameBut (ex : List Nat) (w W : World) : Prop where
  size : w.heap.size ≤ W.heap.size
  block : ∀ k, k < w.heap.size → k ∉ ex → W.heap[k]? = w.heap[k]?
theorem SameBut.refl (ex : List Nat) (w : World) : SameBut ex w w := ⟨Nat.le_refl _, fun _ _ _ => rfl⟩
theorem SameBut.cell {ex : List Nat} {w W : World} (h : SameBut ex w W) {b o : Nat} {v : Value} (hc : w.cell? ⟨b, o, none⟩ = some v) (hb : b < w.heap.size) (he : b ∉ ex) : W.cell? ⟨b, o, none⟩ = some v :=
  (World.cell?_of_block (h.block b hb he)).trans hc
theorem SameBut.boxed {ex : List Nat} {w W : World} (h : SameBut ex w W) {b t : Nat} {v : Value} (hc : Boxed w b t v) (he : b ∉ ex) : Boxed W b t v := (h.block b hc.lt he).trans hc
theorem SameBut.grown {ex : List Nat} {w W W' : World} {row : Option Nat} (h : SameBut ex w W) (hg : W.grownBy W' row) (hr : ∀ r, row = some r → w.heap.size ≤ r ∨ r ∈ ex) : SameBut ex w W' :=
  ⟨Nat.le_trans h.size hg.size, fun k hk he => (hg.block k (Nat.lt_of_lt_of_le hk h.size) (fun e => by
    rcases hr k e.symm with h1 | h1
    · omega
    · exact he h1)).trans (h.block k hk he)⟩
theorem SameBut.field {ex : List Nat} {w W : World} (h : SameBut ex w W) {bf : Nat} {a : Option Addr} {cap : Nat} {x : Fld} {um mb : Nat} (hf : FieldC w bf a cap x um mb) (he : bf ∉ ex) : FieldC W bf a cap x um mb :=
  hf.kept h.size fun _ _ hv => h.cell hv hf.lt he
theorem SameBut.map {ex : List Nat} {w W : World} (h : SameBut ex w W) {κ : Type} [DecidableEq κ] {b : Nat} {ke : κ → Value} {m : κ → Option Value} (hm : MapIs w b ke m) (he : b ∉ ex) : MapIs W b ke m := hm.of_heap (h.block b hm.lt he)
/-- The kinds, in a slice that lies in none of some blocks. -/
def KindsAt (ex : List Nat) (w : World) (b2 : Nat) (ks : List Nat) : Prop :=
  ∃ a cap, w.cell? ⟨b2, 0, none⟩ = some (.slice a ks.length cap) ∧ ks.length ≤ 9223372036854775807 ∧
    (ks = [] ∨ ∃ b off, a = some ⟨b, off, none⟩ ∧ b < w.heap.size ∧ b ∉ ex ∧ ∀ k (hk : k < ks.length), ∀ j (hj : j < (setRow ks[k]).length), w.cell? ⟨b, off + k * 1 + j, none⟩ = some (setRow ks[k])[j])
theorem SameBut.most {ex : List Nat} {w W : World} (h : SameBut ex w W) {b1 b2 b3 mk : Nat} {ks : List Nat} {M : Nat → Nat} (hc : MostC w b1 b2 b3 mk ks M) (e1 : b1 ∉ ex) (e2 : b2 ∉ ex) (e3 : b3 ∉ ex)
    (hk : KindsAt ex w b2 ks)
    (hm : ∃ mm, MapIs W mk (fun s : Nat => Value.int .u64 (s : Int)) mm ∧ ∀ s v, mm s = some v → v = .int .i64 (M s : Nat)) : MostC W b1 b2 b3 mk ks M := by
  obtain ⟨a, cap, hv1, hl, hx⟩ := hk
  refine ⟨Nat.lt_of_lt_of_le hc.l1 h.size, Nat.lt_of_lt_of_le hc.l2 h.size, Nat.lt_of_lt_of_le hc.l3 h.size, h.cell hc.c1 hc.l1 e1, ⟨_, h.cell hv1 hc.l2 e2, a, cap, rfl, hl, hx.imp id ?_⟩, h.cell hc.c3 hc.l3 e3, hm⟩
  rintro ⟨b, off, ha, hb, hbe, hcell⟩
  exact ⟨b, off, ha, Nat.lt_of_lt_of_le hb h.size, fun k hk' j hj => h.cell (hcell k hk' j hj) hb hbe⟩

/-- The blocks of Apart's own variables, in the world w2 at its loop. -/
structure ABlk (w w2 : World) (bf b4 mb mk b5 b6 b7 b8 b9 : Nat) (m : Int × Int → Option Value) (a : Option Addr) (cap : Nat) (x : Fld) (ks : List Nat) : Prop where
  up : Below w.heap.size w w2
  lo : w.heap.size ≤ mk
  lo8 : w.heap.size ≤ b8
  lo9 : w.heap.size ≤ b9
  er : Boxed w2 (w.heap.size + 1) 30 (.int .i64 0)
  f : FieldC w2 bf a cap x (usefulM x) mb
  m : MapIs w2 mb placeV m
  b : Boxed w2 b4 58 (.pointer (some ⟨bf, 0, none⟩))
  mc : MostC w2 b6 b5 b7 mk ks (mostX x)
  l8 : b8 < w2.heap.size
  l9 : b9 < w2.heap.size
  n8 : b8 ≠ mk
  n9 : b9 ≠ mk
  n89 : b8 ≠ b9
  k5 : b5 ≠ mk ∧ b5 ≠ b8 ∧ b5 ≠ b9
  k6 : b6 ≠ mk ∧ b6 ≠ b8 ∧ b6 ≠ b9
  k7 : b7 ≠ mk ∧ b7 ≠ b8 ∧ b7 ≠ b9
  k4 : b4 ≠ mk ∧ b4 ≠ b8 ∧ b4 ≠ b9
  kf : bf ≠ mk ∧ bf ≠ b8 ∧ bf ≠ b9
  km : mb ≠ mk ∧ mb ≠ b8 ∧ mb ≠ b9
  ke : w.heap.size + 1 ≠ mk ∧ w.heap.size + 1 ≠ b8 ∧ w.heap.size + 1 ≠ b9
  kr : KindsAt [mk, b8, b9] w2 b5 ks
theorem not3 {b m p q : Nat} (h : b ≠ m ∧ b ≠ p ∧ b ≠ q) : b ∉ [m, p, q] := by simp [h.1, h.2.1, h.2.2]

/-- What the loop of Apart keeps. -/
structure AInv (w w2 : World) (mk b8 b9 : Nat) (x : Fld) (pre : List (Int × Int)) (W : World) : Prop where
  up : Below w.heap.size w W
  sm : SameBut [mk, b8, b9] w2 W
  m : ∃ mm, MapIs W mk (fun s : Nat => Value.int .u64 (s : Int)) mm ∧ ∀ s v, mm s = some v → v = .int .i64 (mostX x s : Nat)
  fr : Boxed W b8 61 (.int .u64 (((apartL x pre).2 : Nat) : Int))
  st : ∃ v, Boxed W b9 87 v ∧ W.ownsRow w2.heap.size 43 2 v (apartL x pre).1.length (flat2 (apartL x pre).1)

section
variable {w w2 : World} {bf b4 mb mk b5 b6 b7 b8 b9 : Nat} {m : Int × Int → Option Value} {a : Option Addr} {cap : Nat} {x : Fld} {ks : List Nat} {pre : List (Int × Int)} {W W' : World}
theorem ABlk.mostC (h : ABlk w w2 bf b4 mb mk b5 b6 b7 b8 b9 m a cap x ks) (i : AInv w w2 mk b8 b9 x pre W) : MostC W b6 b5 b7 mk ks (mostX x) :=
  i.sm.most h.mc (not3 h.k6) (not3 h.k5) (not3 h.k7) h.kr i.m
theorem AInv.own (hB : w.heap.size ≤ w2.heap.size) (hm : mk < w2.heap.size) : OwnFrom w2.heap.size (fun pre W => AInv w w2 mk b8 b9 x pre W) := by
  rintro pre W W' row ⟨h1, h2, ⟨mm, h3, h3'⟩, h4, v, h5, h6⟩ hg hr
  have hr2 : ∀ r, row = some r → ∃ o : Obj, W.heap[r]? = some o ∧ o.isCells = false := fun r e => (hr r e).2
  refine ⟨below_grow (B := w2.heap.size) h1 (Nat.le_refl _) hg hB (fun r e => (hr r e).1), h2.grown hg (fun r e => .inl (hr r e).1), ⟨mm, h3.grow hm hg (fun r e => (hr r e).1), h3'⟩, boxed_own _ _ (fun _ => _) () W W' row h4 hg hr2, v, boxed_own _ _ (fun _ => _) () W W' row h5 hg hr2, ?_⟩
  refine h6.kept hg ?_
  rcases h6.2 with ⟨rfl, _⟩ | ⟨g, cap, cur, rfl, hB, hgb, _⟩
  · exact .inl rfl
  · refine .inr (fun e => ?_)
    simp only [Value.ownBlock] at e
    obtain ⟨o, ho, hc⟩ := hr2 g e.symm
    rw [hgb] at ho; cases ho; cases hc
/-- A step that turns the map alone. -/
theorem AInv.known (h : ABlk w w2 bf b4 mb mk b5 b6 b7 b8 b9 m a cap x ks) (i : AInv w w2 mk b8 b9 x pre W) (hg : W.grownBy W' (some mk)) (hm : ∃ mm, MapIs W' mk (fun s : Nat => Value.int .u64 (s : Int)) mm ∧ ∀ s v, mm s = some v → v = .int .i64 (mostX x s : Nat)) : AInv w w2 mk b8 b9 x pre W' := by
  obtain ⟨h1, h2, ⟨mm, h3, h3'⟩, h4, v, h5, h6⟩ := i
  refine ⟨h1.grown hg h1.size (fun k e => by cases e; exact h.lo), h2.grown hg (fun r e => by cases e; exact .inr (by simp)), hm, h4.kept hg (fun e => h.n8 (by cases e; rfl)), v, h5.kept hg (fun e => h.n9 (by cases e; rfl)), h6.kept hg (.inr (h3.not_row h6).symm)⟩
/-- The next place is not taken. -/
theorem AInv.skip (i : AInv w w2 mk b8 b9 x pre W) {q : Int × Int} (h : apartL x (pre ++ [q]) = apartL x pre) : AInv w w2 mk b8 b9 x (pre ++ [q]) W := by
  obtain ⟨h1, h2, h3, h4, v, h5, h6⟩ := i
  exact ⟨h1, h2, h3, by rw [h]; exact h4, v, h5, by rw [h]; exact h6⟩
theorem AInv.kpG {n : Nat} {bx : Nat} {pre' : List (Int × Int)} (i : AInv w w2 mk b8 b9 x pre W) (j : AInv w w2 mk b8 b9 x pre' W') (hs : W.heap.size ≤ W'.heap.size) (hn : n = w.heap.size) (h1 : bx < w2.heap.size) (h2 : bx ≠ mk ∧ bx ≠ b8 ∧ bx ≠ b9) (h3 : bf < w2.heap.size) (h4 : bf ≠ mk ∧ bf ≠ b8 ∧ bf ≠ b9) : KpG n bx bf W W' := by
  subst hn
  refine ⟨⟨j.up.os.trans i.up.os.symm, j.up.tape.trans i.up.tape.symm, j.up.output.trans i.up.output.symm, hs, fun k hk => (j.up.block k hk).trans (i.up.block k hk).symm⟩, ?_⟩
  have key : ∀ b, b < w2.heap.size → b ∉ [mk, b8, b9] → ∀ o v, W.cell? ⟨b, o, none⟩ = some v → W'.cell? ⟨b, o, none⟩ = some v := fun b hb hn o v hv =>
    (World.cell?_of_block ((j.sm.block b hb hn).trans (i.sm.block b hb hn).symm)).trans hv
  rintro b (rfl | rfl) o v hv
  · exact key _ h1 (not3 h2) o v hv
  · exact key _ h3 (not3 h4) o v hv
end
theorem KeepsFrom.of_row {B : Nat} {W W' : World} {base e size k : Nat} {v : Value} {xs : List Value} (hg : W.grownBy W' v.ownBlock) (hr : W.ownsRow base e size v k xs) : KeepsFrom B W W' := by
  refine ⟨hg.size, fun i o _ hi ho => ?_⟩
  refine (hg.block i (Array.getElem?_eq_some_iff.1 hi).1 (fun e => ?_)).trans hi
  rcases hr.2 with ⟨rfl, _⟩ | ⟨g, cap, cur, rfl, hB, hgb, _⟩
  · cases e
  · simp only [Value.ownBlock] at e
    cases e
    rw [hgb] at hi; cases hi; cases ho

/-- The world at the loop. -/
def topA (w : World) (ak : Option Addr) (nk capk : Nat) (fr : Nat) (bf : Nat) : World :=
  (((((((w.alloc (.map #[] 0)).alloc (.cells #[.slice ak nk capk] 80)).alloc (.cells #[.map (some w.heap.size)] 82)).alloc (.cells #[.func (.func 40) #[] #[.pointer (some ⟨w.heap.size + 1 + 1, 0, none⟩), .pointer (some ⟨w.heap.size + 1, 0, none⟩), .pointer (some ⟨w.heap.size + 1 + 1 + 1, 0, none⟩)]] 83)).alloc
    (.cells #[.int .u64 (fr : Int)] 61)).alloc (.cells #[.slice none 0 0] 87)).alloc (.cells #[.pointer (some ⟨bf, 0, none⟩)] 58))
structure TopA (w : World) (ak : Option Addr) (nk capk : Nat) (fr : Nat) (bf : Nat) (W : World) : Prop where
  up : Below w.heap.size w W
  size : W.heap.size = w.heap.size + 1 + 1 + 1 + 1 + 1 + 1 + 1
  m : MapIs W w.heap.size (fun s : Nat => Value.int .u64 (s : Int)) fun _ => none
  b5 : Boxed W (w.heap.size + 1) 80 (.slice ak nk capk)
  b6 : Boxed W (w.heap.size + 1 + 1) 82 (.map (some w.heap.size))
  b7 : Boxed W (w.heap.size + 1 + 1 + 1) 83 (.func (.func 40) #[] #[.pointer (some ⟨w.heap.size + 1 + 1, 0, none⟩), .pointer (some ⟨w.heap.size + 1, 0, none⟩), .pointer (some ⟨w.heap.size + 1 + 1 + 1, 0, none⟩)])
  b8 : Boxed W (w.heap.size + 1 + 1 + 1 + 1) 61 (.int .u64 (fr : Int))
  b9 : Boxed W (w.heap.size + 1 + 1 + 1 + 1 + 1) 87 (.slice none 0 0)
  bx : Boxed W (w.heap.size + 1 + 1 + 1 + 1 + 1 + 1) 58 (.pointer (some ⟨bf, 0, none⟩))
theorem boxed_at {w W : World} {o : Obj} {b T : Nat} {v : Value} (hW : W = w.alloc o) (ho : o = .cells #[v] T) (hb : b = w.heap.size) : Boxed W b T v := by subst hW ho hb; exact Boxed.new w T v
theorem topA_is (w : World) (ak : Option Addr) (nk capk : Nat) (fr : Nat) (bf : Nat) : TopA w ak nk capk fr bf (topA w ak nk capk fr bf) := by
  unfold topA
  refine ⟨Up.alloc _ (Up.alloc _ (Up.alloc _ (Up.alloc _ (Up.alloc _ (Up.alloc _ (Up.alloc _ (Up.refl _))))))), by simp only [World.size_alloc], ?_, ?_, ?_, ?_, ?_, ?_, ?_⟩
  · have h := MapIs.made (w := w) (ke := fun s : Nat => Value.int .u64 (s : Int))
    refine h.of_heap ?_
    rw [Below.heap_alloc _ _ _ (by simp only [World.size_alloc]; omega), Below.heap_alloc _ _ _ (by simp only [World.size_alloc]; omega), Below.heap_alloc _ _ _ (by simp only [World.size_alloc]; omega), Below.heap_alloc _ _ _ (by simp only [World.size_alloc]; omega), Below.heap_alloc _ _ _ (by simp only [World.size_alloc]; omega), Below.heap_alloc _ _ _ (by simp only [World.size_alloc]; omega)]
  · exact (((((boxed_at rfl rfl (by simp only [World.size_alloc])).alloc _).alloc _).alloc _).alloc _).alloc _
  · exact ((((boxed_at rfl rfl (by simp only [World.size_alloc])).alloc _).alloc _).alloc _).alloc _
  · exact (((boxed_at rfl rfl (by simp only [World.size_alloc])).alloc _).alloc _).alloc _
  · exact ((boxed_at rfl rfl (by simp only [World.size_alloc])).alloc _).alloc _
  · exact (boxed_at rfl rfl (by simp only [World.size_alloc])).alloc _
  · exact boxed_at rfl rfl (by simp only [World.size_alloc])
theorem ablk_top {w w4 W : World} {bf b4 mb : Nat} {m : Int × Int → Option Value} {a : Option Addr} {cap : Nat} {x : Fld} {ak : Option Addr} {capk fr : Nat} {ks : List Nat} (h : TopA w4 ak ks.length capk fr bf W) (hU : Below w.heap.size w w4) (hw : w.heap.size + 1 < w4.heap.size) (hE : Boxed w4 (w.heap.size + 1) 30 (.int .i64 0))
    (hf : FieldC w4 bf a cap x (usefulM x) mb) (hm : MapIs w4 mb placeV m) (hX : Boxed w4 b4 58 (.pointer (some ⟨bf, 0, none⟩))) (hs : SlW 1 setRow w4 (.slice ak ks.length capk) ks) :
    ABlk w W bf b4 mb w4.heap.size (w4.heap.size + 1) (w4.heap.size + 1 + 1) (w4.heap.size + 1 + 1 + 1) (w4.heap.size + 1 + 1 + 1 + 1) (w4.heap.size + 1 + 1 + 1 + 1 + 1) m a cap x ks := by
  have hsz := h.size
  have hlf := hf.lt; have hlm := hm.lt; have hlx := hX.lt
  have hsl := hs.below (Nat.le_refl _) h.up
  obtain ⟨a', cap', e, hmax, hx⟩ := hs
  cases e
  refine ⟨hU.trans (h.up.mono hU.size), by omega, by omega, by omega, boxed_below hE (Nat.le_refl _) h.up, hf.below (Nat.le_refl _) h.up, hm.of_heap (h.up.block _ hm.lt), boxed_below hX (Nat.le_refl _) h.up, ⟨h.b6.lt, h.b5.lt, h.b7.lt, h.b6.cell, ⟨_, h.b5.cell, hsl⟩, h.b7.cell, ⟨_, h.m, fun s v e => by cases e⟩⟩, h.b8.lt, h.b9.lt, by omega, by omega, by omega, by omega, by omega, by omega, by omega, by omega, by omega, by omega, ?_⟩
  refine ⟨ak, capk, h.b5.cell, hmax, hx.imp id ?_⟩
  rintro ⟨b, off, ha, hb, hc⟩
  refine ⟨b, off, ha, Nat.lt_of_lt_of_le hb h.up.size, by simp; omega, fun k hk j hj => (h.up.cell (p := ⟨b, off + k * 1 + j, none⟩) hb).trans (hc k hk j hj)⟩

/-- The next place is taken: it is pushed, and its plates are free no more. -/
theorem AInv.take {w w2 : World} {bf b4 mb mk b5 b6 b7 b8 b9 : Nat} {m : Int × Int → Option Value} {a : Option Addr} {cap : Nat} {x : Fld} {ks : List Nat} {pre : List (Int × Int)} {W w1 : World} {v : Value} {gb gcap fr2 : Nat} {q : Int × Int}
    (h : ABlk w w2 bf b4 mb mk b5 b6 b7 b8 b9 m a cap x ks) (i : AInv w w2 mk b8 b9 x pre W) (hown : W.ownsRow w2.heap.size 43 2 v (apartL x pre).1.length (flat2 (apartL x pre).1)) (hg : W.grownBy w1 v.ownBlock)
    (hbx : Boxed (w1.setCell ⟨b9, 0, none⟩ (.slice (some ⟨gb, 0, none⟩) ((apartL x pre).1.length + 1) gcap)) b9 87 (.slice (some ⟨gb, 0, none⟩) ((apartL x pre).1.length + 1) gcap))
    (hrow : (w1.setCell ⟨b9, 0, none⟩ (.slice (some ⟨gb, 0, none⟩) ((apartL x pre).1.length + 1) gcap)).ownsRow w2.heap.size 43 2 (.slice (some ⟨gb, 0, none⟩) ((apartL x pre).1.length + 1) gcap) ((apartL x pre).1.length + 1) (flat2 (apartL x pre).1 ++ [.int .i64 q.1, .int .i64 q.2]))
    (hst : apartL x (pre ++ [q]) = ((apartL x pre).1 ++ [q], fr2)) :
    Boxed (w1.setCell ⟨b9, 0, none⟩ (.slice (some ⟨gb, 0, none⟩) ((apartL x pre).1.length + 1) gcap)) b8 61 (.int .u64 (((apartL x pre).2 : Nat) : Int)) ∧
    AInv w w2 mk b8 b9 x (pre ++ [q]) ((w1.setCell ⟨b9, 0, none⟩ (.slice (some ⟨gb, 0, none⟩) ((apartL x pre).1.length + 1) gcap)).setCell ⟨b8, 0, none⟩ (.int .u64 (fr2 : Int))) ∧
    KeepsFrom w2.heap.size W ((w1.setCell ⟨b9, 0, none⟩ (.slice (some ⟨gb, 0, none⟩) ((apartL x pre).1.length + 1) gcap)).setCell ⟨b8, 0, none⟩ (.int .u64 (fr2 : Int))) := by
  obtain ⟨h1, h2, ⟨mm, h3, h3'⟩, h4, _⟩ := i
  have hr : ∀ r, v.ownBlock = some r → w2.heap.size ≤ r := fun r e => by
    rcases hown.2 with ⟨rfl, _⟩ | ⟨g, cap, cur, rfl, hB, _⟩
    · cases e
    · simp only [Value.ownBlock] at e; cases e; exact hB
  have hlo := h.up.size
  have n8 := h4.not_row (by decide) hown
  have hb8 := (h4.kept hg n8).other (B' := b9) h.n89 (.slice (some ⟨gb, 0, none⟩) ((apartL x pre).1.length + 1) gcap)
  have hm1 := h3.not_row hown
  have g9 := grownBy_setCell' w1 b9 (.slice (some ⟨gb, 0, none⟩) ((apartL x pre).1.length + 1) gcap)
  have g8 := grownBy_setCell' (w1.setCell ⟨b9, 0, none⟩ (.slice (some ⟨gb, 0, none⟩) ((apartL x pre).1.length + 1) gcap)) b8 (.int .u64 (fr2 : Int))
  have u1 : Below w.heap.size w w1 := h1.grown hg h1.size (fun k e => Nat.le_trans hlo (hr k e))
  refine ⟨hb8, ⟨(u1.setCell (p := ⟨b9, 0, none⟩) h.lo9 _).setCell (p := ⟨b8, 0, none⟩) h.lo8 _, ((h2.grown hg (fun r e => .inl (hr r e))).grown g9 (fun r e => by cases e; exact .inr (by simp))).grown g8 (fun r e => by cases e; exact .inr (by simp)), ⟨mm, ?_, h3'⟩, ?_, _, hbx.other h.n89.symm _, ?_⟩, ?_⟩
  · refine h3.of_heap ?_
    rw [Below.heap_setCell _ _ _ _ (fun e => h.n8 e.symm), Below.heap_setCell _ _ _ _ (fun e => h.n9 e.symm)]
    exact hg.block mk h3.lt hm1
  · rw [hst]; exact hb8.set _
  · rw [hst, List.length_append, flat2_snoc]
    exact World.ownsRow.kept hrow g8 (.inr (hb8.not_row (by decide) hrow).symm)
  · exact ((KeepsFrom.of_row hg hown).trans (KeepsFrom.of_grownBy g9 (fun j e => by cases e; exact h.l9))).trans (KeepsFrom.of_grownBy g8 (fun j e => by cases e; exact h.l8))

/-- The world of a region that turns the map of 'most' alone. -/
structure MW (W : World) (b1 b2 b3 mk : Nat) (ks : List Nat) (M : Nat → Nat) where
  w : World
  g : W.grownBy w (some mk)
  c : MostC w b1 b2 b3 mk ks M
section
variable {W : World} {b1 b2 b3 mk : Nat} {ks : List Nat} {M : Nat → Nat} (g : MW W b1 b2 b3 mk ks M)
@[go_sem] theorem MW.cell {b o : Nat} (h : b < W.heap.size) (hn : b ≠ mk) : g.w.cell? ⟨b, o, none⟩ = W.cell? ⟨b, o, none⟩ := World.cell?_of_block (g.g.block b h (fun e => hn (by cases e; rfl)))
@[go_sem] theorem MW.lt {b : Nat} (h : b < W.heap.size) : (b < g.w.heap.size) = True := eq_true (Nat.lt_of_lt_of_le h g.g.size)
theorem MW.call {f : FuncId} {args : Array Value} {v : Value} (h : Calls Try.prog f args g.w fun e w' => e = .returned v ∧ g.w.grownBy w' (some mk) ∧ MostC w' b1 b2 b3 mk ks M) :
    Calls Try.prog f args g.w fun e w'' => e = .returned v ∧ ∃ g' : MW W b1 b2 b3 mk ks M, w'' = g'.w :=
  h.mono fun _ w' ⟨he, hb, hc⟩ => ⟨he, ⟨w', g.g.trans hb, hc⟩, rfl⟩
end
section
variable {P : Program} {n r : Nat}
theorem regionR_C {C : World → Prop} {id : Nat} {l : List Oper} {Q : Exit → Act → World → Prop} {a : Act} {w : World} (hm : P.follows .mixedOrders = true) (hB : Region.lexB .any l.toArray = true) (hnd : (l.all fun o => match o.op with | .defer _ => false | _ => true) = true) (hC : C w.drew)
    (h : wpQuiet P l.toArray C (fun a' => ∀ w', C w' → Q .normal a' w') l a) : (Code.region id l.toArray true).wpIn (Fence.wide.inRound r) n P Q a w := by
  simp only [Region.lexB, Bool.and_eq_true] at hB
  refine wpIn_region_any hm (roundAny_of_quiet (C := C) (Q := fun a' => ∀ w', C w' → Q .normal a' w') ?_ (fun _ w' hw' h => h w' hw') _ _ _ _ hC ?_)
  · intro i o ho c hc
    have hmem : o ∈ l := by
      have : l[i]? = some o := by simpa using ho
      exact List.mem_of_getElem? this
    have := List.all_eq_true.1 hnd o hmem
    rw [hc] at this
    simp at this
  · have := wpAnyQ_lex (P := P) (C := C) (md := .any) hB.1 l 0 (Array.replicate l.toArray.size false) a (by simp) (by simpa using hB.2) h
    simpa using this
end
theorem MW.drew {W : World} {b1 b2 b3 mk : Nat} {ks : List Nat} {M : Nat → Nat} (h : MostC W b1 b2 b3 mk ks M) : ∃ g : MW W b1 b2 b3 mk ks M, W.drew = g.w := by
  have hg : W.grownBy W.drew (some mk) := by
    have h4 : W.grownBy W.drew none := GW.grown ⟨W.drew, Up.drew (Up.refl _)⟩
    exact ⟨h4.os, h4.tape, h4.output, h4.size, fun k hk _ => h4.block k hk (by simp)⟩
  obtain ⟨mm, h1, h2⟩ := h.m
  exact ⟨⟨W.drew, hg, h.next hg ⟨mm, h1.of_heap rfl, h2⟩⟩, rfl⟩

end Go.Proofs.Ytlfemkelnllmnaa
