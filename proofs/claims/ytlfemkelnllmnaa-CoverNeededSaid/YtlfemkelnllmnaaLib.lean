/- Small words for all walks of this seat: what a slice reads as, what a call leaves of older memory. -/
import Derived.Test.YtlfemkelnllmnaaRows
import Derived.Test.YtlfemkelnllmnaaPlain
import Derived.WalkKit
import Derived.WalkSpells
import Derived.WalkLawsBesides
import Derived.BigQuiet
import Derived.Deep.QuietTactic
import Derived.Lib.Hide
import Derived.Laws.EntriesVeiled
import Derived.RangeFuncNested
import Derived.RangeFuncBound
import Derived.RangeFuncLeaves
import Derived.OwnWalkIn
import Derived.TacticsInMore
import Derived.LoopNIn
import Derived.LoopIn
import Derived.Defers
import Derived.Recover
import Derived.StillTailTactics
import Derived.RangeFuncCalls
import Derived.Shelf.Abstract
import Derived.Shelf.RegionOpen
set_option linter.all false
set_option linter.unusedVariables false
set_option linter.unusedSimpArgs false
namespace Go.Proofs.Ytlfemkelnllmnaa
open Go.RowKit

/-- A slice value reads as the list l, an element taking E cells that hold 'row x'. -/
def SlW {α : Type} (E : Nat) (row : α → List Value) (w : World) (v : Value) (l : List α) : Prop :=
  ∃ a cap, v = .slice a l.length cap ∧ l.length ≤ 9223372036854775807 ∧
    (l = [] ∨ ∃ b off, a = some ⟨b, off, none⟩ ∧ b < w.heap.size ∧ ∀ k (hk : k < l.length), ∀ j (hj : j < (row l[k]).length), w.cell? ⟨b, off + k * E + j, none⟩ = some (row l[k])[j])

theorem SlW.below {α : Type} {E : Nat} {row : α → List Value} {w w' : World} {v : Value} {l : List α} (h : SlW E row w v l) {B : Nat} (hB : w.heap.size ≤ B) (hb : Below B w w') : SlW E row w' v l := by
  obtain ⟨a, cap, hv, hl, h⟩ := h
  refine ⟨a, cap, hv, hl, h.imp id ?_⟩
  rintro ⟨b, off, ha, hbs, hc⟩
  exact ⟨b, off, ha, Nat.lt_of_lt_of_le hbs hb.size, fun k hk j hj => (hb.cell (p := ⟨b, off + k * E + j, none⟩) (Nat.lt_of_lt_of_le hbs hB)).trans (hc k hk j hj)⟩

theorem SlW.nil {α : Type} (E : Nat) (row : α → List Value) (w : World) : SlW E row w (.slice none 0 0) ([] : List α) :=
  ⟨none, 0, rfl, by simp, .inl rfl⟩

/-! ### A WORLD THAT IS AS W WAS BELOW B, under a name that the walk's simp reads through -/
structure GW (B : Nat) (W : World) where
  w : World
  h : Below B W w
instance {B : Nat} {W : World} : Nonempty (GW B W) := ⟨⟨W, Below.refl _ _⟩⟩
theorem GW.of {B : Nat} {W w' : World} (h : Below B W w') : ∃ g : GW B W, w' = g.w := ⟨⟨w', h⟩, rfl⟩
theorem GW.next {B : Nat} {W w' : World} {g : GW B W} (h : Below g.w.heap.size g.w w') (hB : B ≤ W.heap.size) : ∃ g' : GW B W, w' = g'.w :=
  ⟨⟨w', g.h.trans (h.mono (Nat.le_trans hB g.h.size))⟩, rfl⟩
section
variable {B : Nat} {W : World} (g : GW B W)
@[go_sem] theorem GW.cell {b o : Nat} (h : b < B) : g.w.cell? ⟨b, o, none⟩ = W.cell? ⟨b, o, none⟩ := g.h.cell (p := ⟨b, o, none⟩) h
@[go_sem] theorem GW.frozen {b o : Nat} (h : b < B) : g.w.frozen? ⟨b, o, none⟩ = W.frozen? ⟨b, o, none⟩ := g.h.frozen (p := ⟨b, o, none⟩) h
@[go_sem] theorem GW.heap {b : Nat} (h : b < B) : g.w.heap[b]? = W.heap[b]? := g.h.block b h
@[go_sem] theorem GW.lt {b : Nat} (h : b < W.heap.size) : (b < g.w.heap.size) = True := eq_true (Nat.lt_of_lt_of_le h g.h.size)
@[go_sem] theorem GW.le {b : Nat} (h : b ≤ W.heap.size) : (b ≤ g.w.heap.size) = True := eq_true (Nat.le_trans h g.h.size)
end
@[go_sem] theorem lt_grow {b n k : Nat} (h : b < n) : (b < n + k) = True := eq_true (by omega)
@[go_sem] theorem le_grow {b n k : Nat} (h : b ≤ n) : (b ≤ n + k) = True := eq_true (by omega)
/-- The end of a walk: nothing that was there has turned. -/
theorem Up.refl (w : World) : Below w.heap.size w w := Below.refl _ _
theorem Up.gw {a W : World} (g : GW W.heap.size W) (h : Below a.heap.size a W) : Below a.heap.size a g.w := h.trans (g.h.mono h.size)
theorem Up.gwB {a W : World} {B : Nat} (g : GW B W) (h : Below a.heap.size a W) (hB : a.heap.size ≤ B) : Below a.heap.size a g.w := h.trans (g.h.mono hB)
theorem Up.alloc {a w : World} (o : Obj) (h : Below a.heap.size a w) : Below a.heap.size a (w.alloc o) := h.alloc h.size o
theorem Up.drew {a w : World} (h : Below a.heap.size a w) : Below a.heap.size a w.drew := h.drew
theorem Up.setCell {a w : World} {p : Addr} (u : Value) (h : Below a.heap.size a w) (hp : a.heap.size ≤ p.block) : Below a.heap.size a (w.setCell p u) := h.setCell hp u
/-- A call met in a region that draws its order. -/
theorem GW.call {B : Nat} {W : World} {g : GW B W} {P : Program} {f : FuncId} {args : Array Value} {v : Value} (hB : B ≤ W.heap.size)
    (h : Calls P f args g.w fun e w' => e = .returned v ∧ Below g.w.heap.size g.w w') : Calls P f args g.w fun e w'' => e = .returned v ∧ ∃ g' : GW B W, w'' = g'.w :=
  h.mono fun _ w' ⟨he, hb⟩ => ⟨he, ⟨w', g.h.trans (hb.mono (Nat.le_trans hB g.h.size))⟩, rfl⟩
theorem GW.callSame {B : Nat} {W : World} {g : GW B W} {P : Program} {f : FuncId} {args : Array Value} {v : Value}
    (h : Calls P f args g.w fun e w' => e = .returned v ∧ g.w = w') : Calls P f args g.w fun e w'' => e = .returned v ∧ ∃ g' : GW B W, w'' = g'.w :=
  h.mono fun _ _ ⟨he, hb⟩ => ⟨he, g, hb.symm⟩
theorem GW.region {P : Program} {B : Nat} (W0 : World) {id : Nat} {l : List Oper} {Q : Exit → Act → World → Prop} {a : Act} {w : World} (hm : P.follows .mixedOrders = true) (hB : Region.lexB .any l.toArray = true) (hC : Below B W0 w)
    (h : wpQuiet P l.toArray (fun w' => ∃ g : GW B W0, w' = g.w) (fun a' => ∀ w', (∃ g : GW B W0, w' = g.w) → Q .normal a' w') l a) : (Code.region id l.toArray true).wp P Q a w :=
  wp_region_quiet (C := fun w' => ∃ g : GW B W0, w' = g.w) hm hB ⟨⟨w.drew, hC.drew⟩, rfl⟩ h

theorem ret_bool {a b : Bool} (h : a = b) : Ending.returned (.bool a) = .returned (.bool b) := by rw [h]
theorem ret_int {k : IntKind} {a b : Int} (h : a = b) : Ending.returned (.int k a) = .returned (.int k b) := by rw [h]

/-! ### The same in a round of a range over a function: the plain walk of the region serves -/
section
variable {P : Program} {ops : Array Oper} {C : World → Prop} {n r : Nat}
theorem roundOp_of_quiet {o : Oper} {a : Act} {w : World} {v : Value} {K' : Act → World → Prop} {Q' : Exit → Act → World → Prop} (hnd : ∀ c, o.op ≠ .defer c) (hv : o.quietAt P a C w v) (hw : C w) (hK : ∀ w', C w' → K' (a.put o.dst v) w') :
    o.wpIn (Fence.wide.inRound r) n P a w K' Q' := by
  refine ⟨fun _ _ => trivial, ?_⟩
  rw [Oper.semAt_eq _ _ _ hnd]
  unfold Oper.quietAt at hv
  cases hr : (execOp a.eval o).run P w with
  | halt h w' => rw [hr] at hv; exact hv.elim
  | ok x w' =>
    rw [hr] at hv
    cases x with
    | value u => obtain ⟨h1, h2⟩ := hv; rw [h1, h2]; exact hK w hw
    | skip => obtain ⟨h1, h2⟩ := hv; rw [h1]; show K' (a.put o.dst undef) w; rw [← h2]; exact hK w hw
    | enter f args =>
      obtain ⟨h1, hc⟩ := hv
      rw [h1]
      refine (Oper.uponIn_enter ..).symm ▸ ⟨fun h => by simp [Fence.wide] at h, (CallsIn.inRound r (callsIn_wide.2 hc)).mono ?_⟩
      rintro e w'' ⟨rfl, hC⟩
      exact hK _ hC
    | _ => exact hv.elim
theorem roundAny_of_quiet {Q : Act → Prop} {Q' : Exit → Act → World → Prop} (hnd : ∀ (i : Nat) (o : Oper), ops[i]? = some o → ∀ c, o.op ≠ .defer c) (hQ : ∀ a w, C w → Q a → Q' .normal a w) :
    ∀ (fuel : Nat) (listed : Array Bool) (a : Act) (w : World), C w → wpAnyQ P .any ops C Q fuel listed a → wpAnyIn (Fence.wide.inRound r) n P .any ops Q' fuel listed a w := by
  intro fuel
  induction fuel with
  | zero => exact fun _ a w hw h => ⟨h.1, hQ a w hw h.2⟩
  | succ fuel ih =>
    refine fun listed a w hw h => ⟨fun h0 => hQ a w hw (h.1 h0), fun i hi => ?_⟩
    have h1 := h.2 i hi
    unfold qOp at h1
    unfold wpOpIn
    cases ho : ops[i]? with
    | none => rw [ho] at h1; exact ih _ _ _ hw h1
    | some o =>
      rw [ho] at h1
      dsimp only at h1 ⊢
      split
      · rename_i hwant
        rw [if_pos hwant] at h1
        obtain ⟨v, hv, hK⟩ := h1
        exact roundOp_of_quiet (hnd i o ho) (hv w hw) hw fun w' hw' => ih _ _ _ hw' hK
      · rename_i hwant
        rw [if_neg hwant] at h1
        exact ⟨fun _ _ => trivial, ih _ _ _ hw h1⟩
theorem GW.regionR {B : Nat} (W0 : World) {id : Nat} {l : List Oper} {Q : Exit → Act → World → Prop} {a : Act} {w : World} (hm : P.follows .mixedOrders = true) (hB : Region.lexB .any l.toArray = true) (hnd : (l.all fun o => match o.op with | .defer _ => false | _ => true) = true) (hC : Below B W0 w)
    (h : wpQuiet P l.toArray (fun w' => ∃ g : GW B W0, w' = g.w) (fun a' => ∀ w', (∃ g : GW B W0, w' = g.w) → Q .normal a' w') l a) : (Code.region id l.toArray true).wpIn (Fence.wide.inRound r) n P Q a w := by
  simp only [Region.lexB, Bool.and_eq_true] at hB
  refine wpIn_region_any hm (roundAny_of_quiet (C := fun w' => ∃ g : GW B W0, w' = g.w) (Q := fun a' => ∀ w', (∃ g : GW B W0, w' = g.w) → Q .normal a' w') ?_ (fun _ w' hw' h => h w' hw') _ _ _ _ ⟨⟨w.drew, hC.drew⟩, rfl⟩ ?_)
  · intro i o ho c hc
    have hmem : o ∈ l := by
      have : l[i]? = some o := by simpa using ho
      exact List.mem_of_getElem? this
    have := List.all_eq_true.1 hnd o hmem
    rw [hc] at this
    simp at this
  · have := wpAnyQ_lex (P := P) (C := fun w' => ∃ g : GW B W0, w' = g.w) (md := .any) hB.1 l 0 (Array.replicate l.toArray.size false) a (by simp) (by simpa using hB.2) h
    simpa using this
end

@[go_sem] theorem run_makeFunc_plain (P : Program) (fn : Fn) (first cap : Array Value) (w : World) : (Instr.makeFunc fn first cap).run P w = .ok (.func fn first cap) w := rfl
attribute [go_sem] run_makeMap
@[go_sem high] theorem run_max_i64 (P : Program) (ts : Array TypeId) (t : TypeId) (x y : Int) (w : World) : (Builtin.max_ ts t #[.int .i64 x, .int .i64 y]).run P w = .ok (.int .i64 (imax x y)) w := by
  rw [run_max_int2]; congr 2; unfold imax; omega
@[go_sem high] theorem run_min_i64 (P : Program) (ts : Array TypeId) (t : TypeId) (x y : Int) (w : World) : (Builtin.min_ ts t #[.int .i64 x, .int .i64 y]).run P w = .ok (.int .i64 (imin x y)) w := by
  rw [run_min_int2]; congr 2; unfold imin; omega

/-- The one new cell that append is handed. -/
theorem new_cell_at {w : World} {v : Value} {t : TypeId} {b : Nat} (hb : b = w.heap.size) : ∀ j u, [v][j]? = some u → (w.alloc (.cells #[v] t)).cell? ((⟨b, 0, none⟩ : Addr).add j) = some u := by
  subst hb; exact cell_one_new _ _ _

/-- 'the first index at which p holds, or -1' -/
def idxOf {α : Type} (p : α → Bool) (l : List α) : Int := if l.any p then (l.findIdx p : Int) else -1

end Go.Proofs.Ytlfemkelnllmnaa
