/- The iterators of cover: places and sets. -/
import Derived.Test.YtlfemkelnllmnaaCover4
set_option linter.all false
set_option linter.unusedVariables false
set_option linter.unusedSimpArgs false
namespace Go.Proofs.Ytlfemkelnllmnaa
open Go.RowKit
attribute [local go_sem] Oper.semAt_some

def encPl (q : Int × Int) : Array Value := #[placeV q]

/-- What a round keeps of what an iterator of this package reads: all below n₀, and the iterator's own variable bx. -/
def KpB (n₀ bx : Nat) (W W' : World) : Prop := Below n₀ W W' ∧ ∀ v, W.cell? ⟨bx, 0, none⟩ = some v → W'.cell? ⟨bx, 0, none⟩ = some v
theorem kpB_t {n₀ bx : Nat} {A B C : World} (h : KpB n₀ bx A B) (k : KpB n₀ bx B C) : KpB n₀ bx A C := ⟨h.1.trans k.1, fun v hv => k.2 v (h.2 v hv)⟩
theorem kpB_b {n₀ bx : Nat} {w : World} (hn : n₀ ≤ w.heap.size) (W : World) (l : Nat) (o o' : Obj) (hl : w.heap.size ≤ l) (h : W.heap[l]? = some o) (ho : o.isCells = false) (_ : o.isWalk = false) : KpB n₀ bx W (W.putObj l o') :=
  ⟨belowK_b hn W l o o' hl h ho (by assumption), fun v hv => by
    have hne : bx ≠ l := fun e => by
      subst e
      unfold World.cell? at hv
      simp only [h] at hv
      cases o <;> simp_all [Obj.isCells]
    have := World.putObj_heap_other (w := W) (o := o') hne
    unfold World.cell? at hv ⊢
    rw [this]
    exact hv⟩

set_option maxHeartbeats 2000000 in
set_option maxRecDepth 10000 in
theorem places1_stops (n : Nat) (hn : 3 ≤ n) (bx bf n₀ : Nat) (a : Option Addr) (cap : Nat) (x : Fld) (um mb : Nat) (w : World) (hv : validB x = true) (hF : FieldC w bf a cap x um mb) (hfn : bf < n₀) (hbx : bx < w.heap.size) (hn0 : n₀ ≤ w.heap.size) (hx : w.cell? ⟨bx, 0, none⟩ = some (.pointer (some ⟨bf, 0, none⟩))) :
    SeqStopsK Fence.wide n Try.prog 58 #[.pointer (some ⟨bx, 0, none⟩)] encPl (KpB n₀ bx) (· = placesL x) (· <+: placesL x) (placesL x).length w := by
  intro l J Jx W hW hJ hJx hY h0
  obtain ⟨⟨xe0, xe1, xe2⟩, ⟨xn0, xn1, xn2⟩, _, _, _, _, _, _⟩ := valid_bounds hv
  clear hv hJ hJx
  have hn1 : 1 ≤ n := by omega
  have hFx : ∀ wr, KpB n₀ bx w wr → wr.cell? ⟨bx, 0, none⟩ = some (.pointer (some ⟨bf, 0, none⟩)) ∧ wr.cell? ⟨bf, 1, none⟩ = some (.int .i64 x.e0) ∧ wr.cell? ⟨bf, 2, none⟩ = some (.int .i64 x.e1) ∧ wr.cell? ⟨bf, 3, none⟩ = some (.int .i64 x.n0) ∧ wr.cell? ⟨bf, 4, none⟩ = some (.int .i64 x.n1) := fun wr h =>
    ⟨h.2 _ hx, (h.1.cell (p := ⟨bf, 1, none⟩) hfn).trans hF.c1, (h.1.cell (p := ⟨bf, 2, none⟩) hfn).trans hF.c2, (h.1.cell (p := ⟨bf, 3, none⟩) hfn).trans hF.c3, (h.1.cell (p := ⟨bf, 4, none⟩) hfn).trans hF.c4⟩
  have HFX := Lib.hid hFx; clear hFx hF hx
  have HY := Lib.hid hY; clear hY
  have hWn : KpB n₀ bx w W := ⟨hW.mono hn0, fun v hv => (hW.cell (p := ⟨bx, 0, none⟩) hbx).trans hv⟩
  have hpl : placesL x = [] ++ gridL x.e0 x.n0 (x.n1 - x.n0 + 1).toNat (x.e1 - x.e0 + 1).toNat := rfl
  generalize placesL x = pl at *
  generalize hm : (x.n1 - x.n0 + 1).toNat = m at *
  generalize hr : (x.e1 - x.e0 + 1).toNat = r at *
  have HPL := Lib.hid hpl; clear hpl
  have hm' : (m : Int) = x.n1 - x.n0 + 1 := by omega
  have hr' : (r : Int) = x.e1 - x.e0 + 1 := by omega
  have HM := Lib.hid hm'; have HR := Lib.hid hr'
  clear hm hr hm' hr'
  obtain ⟨d0, d1, d2, d3, d4⟩ := HFX.out W hWn
  refine callsIn_of_wp Try.func58 rfl trivial ?_ rfl
  simp only [Try.ntmps58, List.size_toArray, List.length_cons, List.length_nil, Nat.reduceAdd, Nat.reduceSub, Array.replicate_succ, Array.replicate_zero, List.push_toArray, List.append_toArray, List.nil_append, List.cons_append]
  gi_wp2
  gi_loopw [3] (fun s wr => ∃ (av : Int) (pre : List (Int × Int)) (rr : Nat), s = .int .i64 av ∧ x.e0 ≤ av ∧ Hid ((rr : Int) = x.e1 - av + 1) ∧ Hid (pl = pre ++ gridL av x.n0 m rr) ∧ J pre wr ∧ KpB n₀ bx w wr) (fun s _ => (33 - intOf s).toNat)
  case atStart => exact ⟨x.e0, [], r, rfl, Int.le_refl _, HR.out, HPL.out, h0, hWn⟩
  case round =>
    clear d0 d1 d2 d3 d4
    obtain ⟨av, pre, rr, rfl, ha0, har, hpre, hJ, hB⟩ := hrel
    obtain ⟨d0, d1, d2, d3, d4⟩ := HFX.out wr hB
    by_cases hin : av ≤ x.e1
    · gi_wp2
      gi_loopw [4] (fun s wr => ∃ (bv : Int) (pre' : List (Int × Int)) (r2 : Nat), s = .int .i64 bv ∧ x.n0 ≤ bv ∧ Hid ((r2 : Int) = x.n1 - bv + 1) ∧ Hid (pl = pre' ++ (rowL av bv r2 ++ gridL (av + 1) x.n0 m (rr - 1))) ∧ J pre' wr ∧ KpB n₀ bx w wr) (fun s _ => (33 - intOf s).toNat)
      case atStart =>
        refine ⟨x.n0, pre, m, rfl, Int.le_refl _, HM.out, ?_, hJ, hB⟩
        have h1 := har.out; have h2 := hpre.out
        obtain ⟨r3, rfl⟩ : ∃ r3, rr = r3 + 1 := ⟨rr - 1, by omega⟩
        rw [gridL] at h2
        exact h2
      case round =>
        clear d0 d1 d2 d3 d4 hJ hB
        obtain ⟨bv, pre', r2, rfl, hb0, hr2, hpre', hJ, hB⟩ := hrel
        obtain ⟨d0, d1, d2, d3, d4⟩ := HFX.out wr hB
        by_cases hinb : bv ≤ x.n1
        · obtain ⟨r3, hr3⟩ : ∃ r3, r2 = r3 + 1 := ⟨r2 - 1, by have := hr2.out; omega⟩
          subst hr3
          have hlen : pre'.length < pl.length := by rw [hpre'.out, rowL]; simp
          obtain ⟨fn, tmps, assign, body, hy, hRR⟩ := HY.out pre' (av, bv) wr hJ hlen
          simp only [encPl, placeV] at hy
          have HRR := Lib.hid hRR; clear hRR hlen
          gi_wp2
          refine HRR.out.mono ?_
          rintro e W3 (⟨rfl, hJ3, hk3⟩ | ⟨rfl, hJx3⟩)
          · gi_wp2
            go_roundw
            case rel =>
              refine ⟨bv + 1, pre' ++ [(av, bv)], r3, by go_num, by omega, ?_, ?_, hJ3, kpB_t hB hk3⟩
              · have := hr2.out; unfold Hid; omega
              · have := hpre'.out; unfold Hid; rw [this, rowL]; simp
            case measure => simp [intOf]; omega
          · gi_wp2
            refine bodyPost_ret (results_none rfl _ _ _) rfl ?_
            refine ⟨⟨_, rfl⟩, .inr ⟨pre' ++ [(av, bv)], ?_, hJx3⟩⟩
            have := hpre'.out
            exact ⟨rowL av (bv + 1) r3 ++ gridL (av + 1) x.n0 m (rr - 1), by rw [this, rowL]; simp⟩
        · gi_wp2
          go_roundw
          case rel =>
            refine ⟨av + 1, pre', rr - 1, by go_num, by omega, ?_, ?_, hJ, hB⟩
            · have := har.out; unfold Hid; omega
            · have h1 := hr2.out
              have h2 := hpre'.out
              obtain rfl : r2 = 0 := by omega
              unfold Hid; rw [h2, rowL]; simp
          case measure => simp [intOf]; omega
    · gi_wp2
      go_end0
      have h1 := har.out
      have h2 := hpre.out
      obtain rfl : rr = 0 := by omega
      rw [gridL, List.append_nil] at h2
      have h3 : J pl wr := by rw [h2]; exact hJ
      first | exact ⟨⟨_, rfl⟩, .inl h3⟩ | exact ⟨⟨_, rfl⟩, .inl ⟨pl, rfl, h3⟩⟩

/-- The same where the field's own block may lie above what the caller writes: the iterator's variable bx and the field bf are kept, and all below n₀. -/
def KpG (n₀ bx bf : Nat) (W W' : World) : Prop := Below n₀ W W' ∧ ∀ b, b = bx ∨ b = bf → ∀ o v, W.cell? ⟨b, o, none⟩ = some v → W'.cell? ⟨b, o, none⟩ = some v
theorem kpG_t {n₀ bx bf : Nat} {A B C : World} (h : KpG n₀ bx bf A B) (k : KpG n₀ bx bf B C) : KpG n₀ bx bf A C := ⟨h.1.trans k.1, fun b hb o v hv => k.2 b hb o v (h.2 b hb o v hv)⟩
theorem kpG_r {n₀ bx bf : Nat} (A : World) : KpG n₀ bx bf A A := ⟨Below.refl _ _, fun _ _ _ _ h => h⟩
theorem kpG_b {n₀ bx bf : Nat} {w : World} (hn : n₀ ≤ w.heap.size) (W : World) (l : Nat) (o o' : Obj) (hl : w.heap.size ≤ l) (h : W.heap[l]? = some o) (ho : o.isCells = false) (_ : o.isWalk = false) : KpG n₀ bx bf W (W.putObj l o') :=
  ⟨belowK_b hn W l o o' hl h ho (by assumption), fun b _ c v hv => by
    have hne : b ≠ l := fun e => by
      subst e
      unfold World.cell? at hv
      simp only [h] at hv
      cases o <;> simp_all [Obj.isCells]
    have := World.putObj_heap_other (w := W) (o := o') hne
    unfold World.cell? at hv ⊢
    rw [this]
    exact hv⟩
theorem FieldC.keptG {w w' : World} {bf : Nat} {a : Option Addr} {cap : Nat} {x : Fld} {um mb n₀ bx : Nat} (h : FieldC w bf a cap x um mb) (hk : KpG n₀ bx bf w w') : FieldC w' bf a cap x um mb := by
  have hc : ∀ o v, w.cell? ⟨bf, o, none⟩ = some v → w'.cell? ⟨bf, o, none⟩ = some v := fun o v => hk.2 bf (.inr rfl) o v
  exact ⟨Nat.lt_of_lt_of_le h.lt hk.1.size, hc _ _ h.c0, hc _ _ h.c1, hc _ _ h.c2, hc _ _ h.c3, hc _ _ h.c4, hc _ _ h.c5, hc _ _ h.c6, hc _ _ h.c7, hc _ _ h.c8, hc _ _ h.c9, hc _ _ h.c10, hc _ _ h.c11⟩

set_option maxHeartbeats 2000000 in
set_option maxRecDepth 10000 in
theorem places1_stopsG (n : Nat) (hn : 3 ≤ n) (bx bf n₀ : Nat) (a : Option Addr) (cap : Nat) (x : Fld) (um mb : Nat) (w : World) (hv : validB x = true) (hF : FieldC w bf a cap x um mb) (hbx : bx < w.heap.size) (hn0 : n₀ ≤ w.heap.size) (hx : w.cell? ⟨bx, 0, none⟩ = some (.pointer (some ⟨bf, 0, none⟩))) :
    SeqStopsK Fence.wide n Try.prog 58 #[.pointer (some ⟨bx, 0, none⟩)] encPl (KpG n₀ bx bf) (· = placesL x) (· <+: placesL x) (placesL x).length w := by
  intro l J Jx W hW hJ hJx hY h0
  obtain ⟨⟨xe0, xe1, xe2⟩, ⟨xn0, xn1, xn2⟩, _, _, _, _, _, _⟩ := valid_bounds hv
  clear hv hJ hJx
  have hn1 : 1 ≤ n := by omega
  have hFx : ∀ wr, KpG n₀ bx bf w wr → wr.cell? ⟨bx, 0, none⟩ = some (.pointer (some ⟨bf, 0, none⟩)) ∧ wr.cell? ⟨bf, 1, none⟩ = some (.int .i64 x.e0) ∧ wr.cell? ⟨bf, 2, none⟩ = some (.int .i64 x.e1) ∧ wr.cell? ⟨bf, 3, none⟩ = some (.int .i64 x.n0) ∧ wr.cell? ⟨bf, 4, none⟩ = some (.int .i64 x.n1) := fun wr h =>
    ⟨h.2 bx (.inl rfl) _ _ hx, (hF.keptG h).c1, (hF.keptG h).c2, (hF.keptG h).c3, (hF.keptG h).c4⟩
  have HFX := Lib.hid hFx; clear hFx hx
  have HY := Lib.hid hY; clear hY
  have hWn : KpG n₀ bx bf w W := ⟨hW.mono hn0, fun b hb o v hv => (hW.cell (p := ⟨b, o, none⟩) (by cases hb with | inl e => subst e; exact hbx | inr e => subst e; exact hF.lt)).trans hv⟩
  have hpl : placesL x = [] ++ gridL x.e0 x.n0 (x.n1 - x.n0 + 1).toNat (x.e1 - x.e0 + 1).toNat := rfl
  generalize placesL x = pl at *
  generalize hm : (x.n1 - x.n0 + 1).toNat = m at *
  generalize hr : (x.e1 - x.e0 + 1).toNat = r at *
  have HPL := Lib.hid hpl; clear hpl
  have hm' : (m : Int) = x.n1 - x.n0 + 1 := by omega
  have hr' : (r : Int) = x.e1 - x.e0 + 1 := by omega
  have HM := Lib.hid hm'; have HR := Lib.hid hr'
  clear hm hr hm' hr'
  obtain ⟨d0, d1, d2, d3, d4⟩ := HFX.out W hWn
  refine callsIn_of_wp Try.func58 rfl trivial ?_ rfl
  simp only [Try.ntmps58, List.size_toArray, List.length_cons, List.length_nil, Nat.reduceAdd, Nat.reduceSub, Array.replicate_succ, Array.replicate_zero, List.push_toArray, List.append_toArray, List.nil_append, List.cons_append]
  gi_wp2
  gi_loopw [3] (fun s wr => ∃ (av : Int) (pre : List (Int × Int)) (rr : Nat), s = .int .i64 av ∧ x.e0 ≤ av ∧ Hid ((rr : Int) = x.e1 - av + 1) ∧ Hid (pl = pre ++ gridL av x.n0 m rr) ∧ J pre wr ∧ KpG n₀ bx bf w wr) (fun s _ => (33 - intOf s).toNat)
  case atStart => exact ⟨x.e0, [], r, rfl, Int.le_refl _, HR.out, HPL.out, h0, hWn⟩
  case round =>
    clear d0 d1 d2 d3 d4
    obtain ⟨av, pre, rr, rfl, ha0, har, hpre, hJ, hB⟩ := hrel
    obtain ⟨d0, d1, d2, d3, d4⟩ := HFX.out wr hB
    by_cases hin : av ≤ x.e1
    · gi_wp2
      gi_loopw [4] (fun s wr => ∃ (bv : Int) (pre' : List (Int × Int)) (r2 : Nat), s = .int .i64 bv ∧ x.n0 ≤ bv ∧ Hid ((r2 : Int) = x.n1 - bv + 1) ∧ Hid (pl = pre' ++ (rowL av bv r2 ++ gridL (av + 1) x.n0 m (rr - 1))) ∧ J pre' wr ∧ KpG n₀ bx bf w wr) (fun s _ => (33 - intOf s).toNat)
      case atStart =>
        refine ⟨x.n0, pre, m, rfl, Int.le_refl _, HM.out, ?_, hJ, hB⟩
        have h1 := har.out; have h2 := hpre.out
        obtain ⟨r3, rfl⟩ : ∃ r3, rr = r3 + 1 := ⟨rr - 1, by omega⟩
        rw [gridL] at h2
        exact h2
      case round =>
        clear d0 d1 d2 d3 d4 hJ hB
        obtain ⟨bv, pre', r2, rfl, hb0, hr2, hpre', hJ, hB⟩ := hrel
        obtain ⟨d0, d1, d2, d3, d4⟩ := HFX.out wr hB
        by_cases hinb : bv ≤ x.n1
        · obtain ⟨r3, hr3⟩ : ∃ r3, r2 = r3 + 1 := ⟨r2 - 1, by have := hr2.out; omega⟩
          subst hr3
          have hlen : pre'.length < pl.length := by rw [hpre'.out, rowL]; simp
          obtain ⟨fn, tmps, assign, body, hy, hRR⟩ := HY.out pre' (av, bv) wr hJ hlen
          simp only [encPl, placeV] at hy
          have HRR := Lib.hid hRR; clear hRR hlen
          gi_wp2
          refine HRR.out.mono ?_
          rintro e W3 (⟨rfl, hJ3, hk3⟩ | ⟨rfl, hJx3⟩)
          · gi_wp2
            go_roundw
            case rel =>
              refine ⟨bv + 1, pre' ++ [(av, bv)], r3, by go_num, by omega, ?_, ?_, hJ3, kpG_t hB hk3⟩
              · have := hr2.out; unfold Hid; omega
              · have := hpre'.out; unfold Hid; rw [this, rowL]; simp
            case measure => simp [intOf]; omega
          · gi_wp2
            refine bodyPost_ret (results_none rfl _ _ _) rfl ?_
            refine ⟨⟨_, rfl⟩, .inr ⟨pre' ++ [(av, bv)], ?_, hJx3⟩⟩
            have := hpre'.out
            exact ⟨rowL av (bv + 1) r3 ++ gridL (av + 1) x.n0 m (rr - 1), by rw [this, rowL]; simp⟩
        · gi_wp2
          go_roundw
          case rel =>
            refine ⟨av + 1, pre', rr - 1, by go_num, by omega, ?_, ?_, hJ, hB⟩
            · have := har.out; unfold Hid; omega
            · have h1 := hr2.out
              have h2 := hpre'.out
              obtain rfl : r2 = 0 := by omega
              unfold Hid; rw [h2, rowL]; simp
          case measure => simp [intOf]; omega
    · gi_wp2
      go_end0
      have h1 := har.out
      have h2 := hpre.out
      obtain rfl : rr = 0 := by omega
      rw [gridL, List.append_nil] at h2
      have h3 : J pl wr := by rw [h2]; exact hJ
      first | exact ⟨⟨_, rfl⟩, .inl h3⟩ | exact ⟨⟨_, rfl⟩, .inl ⟨pl, rfl, h3⟩⟩
end Go.Proofs.Ytlfemkelnllmnaa
