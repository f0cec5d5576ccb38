/- A field that is an argument, laid open. -/
import Derived.Test.YtlfemkelnllmnaaRows
import Derived.Test.YtlfemkelnllmnaaRef10
import Derived.ProofKit
import Derived.Deep.Slices
import Derived.Below
import Derived.ChangeSame
set_option linter.all false
set_option linter.unusedVariables false
set_option linter.unusedSimpArgs false
namespace Go.Proofs.Ytlfemkelnllmnaa
open Go.RowKit Go.ChangeShapes Go.WideShapes Go.ChangeAt Go.Deep

theorem list_2 {α : Type} {l : List α} (h : l.length = 2) : ∃ y0 y1, l = [y0, y1] := by
  match l, h with
  | [y0, y1], _ => exact ⟨y0, y1, rfl⟩
theorem list_4 {α : Type} {l : List α} (h : l.length = 4) : ∃ y0 y1 y2 y3, l = [y0, y1, y2, y3] := by
  match l, h with
  | [y0, y1, y2, y3], _ => exact ⟨y0, y1, y2, y3, rfl⟩
theorem list_6 {α : Type} {l : List α} (h : l.length = 6) : ∃ y0 y1 y2 y3 y4 y5, l = [y0, y1, y2, y3, y4, y5] := by
  match l, h with
  | [y0, y1, y2, y3, y4, y5], _ => exact ⟨y0, y1, y2, y3, y4, y5, rfl⟩
theorem list_7 {α : Type} {l : List α} (h : l.length = 7) : ∃ y0 y1 y2 y3 y4 y5 y6, l = [y0, y1, y2, y3, y4, y5, y6] := by
  match l, h with
  | [y0, y1, y2, y3, y4, y5, y6], _ => exact ⟨y0, y1, y2, y3, y4, y5, y6, rfl⟩
theorem list_10 {α : Type} {l : List α} (h : l.length = 10) : ∃ y0 y1 y2 y3 y4 y5 y6 y7 y8 y9, l = [y0, y1, y2, y3, y4, y5, y6, y7, y8, y9] := by
  match l, h with
  | [y0, y1, y2, y3, y4, y5, y6, y7, y8, y9], _ => exact ⟨y0, y1, y2, y3, y4, y5, y6, y7, y8, y9, rfl⟩
theorem add_eq (b o k : Nat) : (⟨b, o, none⟩ : Addr).add k = ⟨b, o + k, none⟩ := by
  unfold Addr.add; split
  · rename_i h; subst h; rfl
  · rfl

section
variable {H : Type} {enc : TypeId × Value → H} {w : World} {base : Nat} {spare : Nat → Bool} {held : Bool}
theorem span_cells {n : Nat} {cs : List Value} {x : DataW H × List MemPlace} (h : DataW.trod enc Try.prog w base spare held n 24 cs = some x) : ∃ lo hi : Int, cs = [.int .i64 lo, .int .i64 hi] := by
  obtain ⟨xs, m, _, _, hl, hlen, hf⟩ := DataW.trod_struct Try.underlying24 h
  have kk : Try.prog.cellsOf 24 = 2 := by kernel_rfl
  have hl2 : cs.length = 2 := hl.trans kk
  have hlen : xs.length = 2 := hlen
  obtain ⟨y0, y1, rfl⟩ := list_2 hlen
  obtain ⟨c0, c1, rfl⟩ := list_2 hl2
  · have k3 : Try.prog.cellsOf 3 = 1 := by kernel_rfl
    have h0 : DataW.trod enc Try.prog w base spare held m 3 (([c0, c1].drop 0).take (Try.prog.cellsOf 3)) = some y0 := hf 0 _ rfl
    have h1 : DataW.trod enc Try.prog w base spare held m 3 (([c0, c1].drop 1).take (Try.prog.cellsOf 3)) = some y1 := hf 1 _ rfl
    rw [k3] at h0 h1
    simp only [List.drop_zero, List.take_succ_cons, List.take_zero, List.drop_succ_cons] at h0 h1
    obtain ⟨a, ha, _⟩ := DataW.trod_int Try.underlying3 h0
    obtain ⟨b, hb, _⟩ := DataW.trod_int Try.underlying3 h1
    simp only [List.cons.injEq, and_true] at ha hb
    exact ⟨a, b, by rw [ha, hb]⟩
theorem sky_cells {n : Nat} {cs : List Value} {x : DataW H × List MemPlace} (h : DataW.trod enc Try.prog w base spare held n 48 cs = some x) : ∃ p : Sky, cs = skyRow p := by
  obtain ⟨xs, m, _, _, hl, hlen, hf⟩ := DataW.trod_struct Try.underlying48 h
  have kk : Try.prog.cellsOf 48 = 6 := by kernel_rfl
  have hl2 : cs.length = 6 := hl.trans kk
  have hlen : xs.length = 4 := hlen
  obtain ⟨y0, y1, y2, y3, rfl⟩ := list_4 hlen
  obtain ⟨c0, c1, c2, c3, c4, c5, rfl⟩ := list_6 hl2
  · have k3 : Try.prog.cellsOf 3 = 1 := by kernel_rfl
    have k24 : Try.prog.cellsOf 24 = 2 := by kernel_rfl
    have h0 : DataW.trod enc Try.prog w base spare held m 24 (([c0, c1, c2, c3, c4, c5].drop 0).take (Try.prog.cellsOf 24)) = some y0 := hf 0 _ rfl
    have h1 : DataW.trod enc Try.prog w base spare held m 24 (([c0, c1, c2, c3, c4, c5].drop 2).take (Try.prog.cellsOf 24)) = some y1 := hf 1 _ rfl
    have h2 : DataW.trod enc Try.prog w base spare held m 3 (([c0, c1, c2, c3, c4, c5].drop 4).take (Try.prog.cellsOf 3)) = some y2 := hf 2 _ rfl
    have h3 : DataW.trod enc Try.prog w base spare held m 3 (([c0, c1, c2, c3, c4, c5].drop 5).take (Try.prog.cellsOf 3)) = some y3 := hf 3 _ rfl
    rw [k24] at h0 h1
    rw [k3] at h2 h3
    simp only [List.drop_zero, List.take_succ_cons, List.take_zero, List.drop_succ_cons] at h0 h1 h2 h3
    obtain ⟨a0, a1, ha⟩ := span_cells h0
    obtain ⟨b0, b1, hb⟩ := span_cells h1
    obtain ⟨d, hd, _⟩ := DataW.trod_int Try.underlying3 h2
    obtain ⟨e, he, _⟩ := DataW.trod_int Try.underlying3 h3
    simp only [List.cons.injEq, and_true] at ha hb hd he
    obtain ⟨rfl, rfl⟩ := ha
    obtain ⟨rfl, rfl⟩ := hb
    subst hd he
    exact ⟨⟨a0, a1, b0, b1, d, e⟩, rfl⟩
theorem spot_none {w : World} {a : Addr} {v : Value} (h : w.cell? a = some v) : a = ⟨a.block, a.off, none⟩ ∧ a.block < w.heap.size := by
  unfold World.cell? at h
  split at h
  · rename_i c _ _ hh
    refine ⟨?_, (Array.getElem?_eq_some_iff.1 hh).1⟩
    split at h
    · cases h
    · rename_i hs
      have : a.spot = none := by simpa using hs
      cases a; simp_all
  · cases h
theorem open_skies {n : Nat} {cs : List Value} {x : DataW H × List MemPlace} (h : DataW.trod enc Try.prog w base spare held n 22 cs = some x) : ∃ a cap, ∃ ps : List Sky, cs = [.slice a ps.length cap] ∧ SlW 6 skyRow w (.slice a ps.length cap) ps := by
  rcases open_slice Try.underlying22 h with ⟨rfl, _⟩ | ⟨a, len, cap, m, k, D, Pl, rfl, hb, hl, hcap, hm, _, hi⟩
  · exact ⟨none, 0, [], rfl, SlW.nil _ _ _⟩
  · have k48 : Try.prog.cellsOf 48 = 6 := by kernel_rfl
    have hml : len ≤ m := by rw [hm]; split <;> omega
    have key : ∀ i, i < len → ∃ p : Sky, ∀ j (hj : j < (skyRow p).length), w.cell? ((a.add (i * 6)).add j) = some (skyRow p)[j] := by
      intro i hil
      obtain ⟨cs', hc, ht⟩ := hi i (by omega)
      obtain ⟨p, rfl⟩ := sky_cells ht
      rw [k48] at hc
      obtain ⟨_, _, hat⟩ := World.cells?_some hc
      exact ⟨p, fun j hj => (hat j hj).trans (List.getElem?_eq_getElem hj)⟩
    obtain ⟨f, hf⟩ := choose_lt key
    refine ⟨some a, cap, (List.range len).map f, by simp, some a, cap, by simp, by simp; unfold maxLen at hcap; omega, ?_⟩
    cases hlen : len with
    | zero => exact .inl (by simp)
    | succ l =>
      have h0 := hf 0 (by omega) 0 (by simp [skyRow])
      obtain ⟨ha, hbl⟩ := spot_none h0
      obtain ⟨ab, ao, sp⟩ := a
      have has : sp = none := by
        have := congrArg Addr.spot ha
        simpa [Addr.add] using this
      subst has
      refine .inr ⟨ab, ao, rfl, by simpa [Addr.add] using hbl, fun i hi2 j hj => ?_⟩
      have hil : i < len := by rw [hlen]; simpa using hi2
      have := hf i hil j (by simpa using hj)
      simp only [List.getElem_map, List.getElem_range]
      rw [add_eq, add_eq] at this
      exact this
set_option maxRecDepth 100000 in
theorem open_field {r : Reach} {b0 : Nat} {v : Value} {d : DataW H} {p : List MemPlace} (hval : Value.okWide Try.prog w r b0 26 v) (h : DataW.Trod enc Try.prog w base spare held 26 v d p) :
    ∃ a cap x, v = fldV a cap x ∧ SlW 6 skyRow w (.slice a x.ps.length cap) x.ps := by
  obtain ⟨cs, rfl, hsz⟩ := okWide_struct Try.underlying26 hval
  obtain ⟨fuel, hf⟩ := h
  obtain ⟨l⟩ := cs
  have kk : Try.prog.cellsOf 26 = 10 := by kernel_rfl
  have hl2 : l.length = 10 := hsz.trans kk
  obtain ⟨xs, m, _, _, _, hlen, hg⟩ := DataW.trod_struct Try.underlying26 hf
  have hlen : xs.length = 7 := hlen
  obtain ⟨y0, y1, y2, y3, y4, y5, y6, rfl⟩ := list_7 hlen
  obtain ⟨c0, c1, c2, c3, c4, c5, c6, c7, c8, c9, rfl⟩ := list_10 hl2
  · have k3 : Try.prog.cellsOf 3 = 1 := by kernel_rfl
    have k24 : Try.prog.cellsOf 24 = 2 := by kernel_rfl
    have k22 : Try.prog.cellsOf 22 = 1 := by kernel_rfl
    have h0 : DataW.trod enc Try.prog w base spare held m 22 (([c0, c1, c2, c3, c4, c5, c6, c7, c8, c9].drop 0).take (Try.prog.cellsOf 22)) = some y0 := hg 0 _ rfl
    have h1 : DataW.trod enc Try.prog w base spare held m 24 (([c0, c1, c2, c3, c4, c5, c6, c7, c8, c9].drop 1).take (Try.prog.cellsOf 24)) = some y1 := hg 1 _ rfl
    have h2 : DataW.trod enc Try.prog w base spare held m 24 (([c0, c1, c2, c3, c4, c5, c6, c7, c8, c9].drop 3).take (Try.prog.cellsOf 24)) = some y2 := hg 2 _ rfl
    have h3 : DataW.trod enc Try.prog w base spare held m 24 (([c0, c1, c2, c3, c4, c5, c6, c7, c8, c9].drop 5).take (Try.prog.cellsOf 24)) = some y3 := hg 3 _ rfl
    have h4 : DataW.trod enc Try.prog w base spare held m 3 (([c0, c1, c2, c3, c4, c5, c6, c7, c8, c9].drop 7).take (Try.prog.cellsOf 3)) = some y4 := hg 4 _ rfl
    have h5 : DataW.trod enc Try.prog w base spare held m 3 (([c0, c1, c2, c3, c4, c5, c6, c7, c8, c9].drop 8).take (Try.prog.cellsOf 3)) = some y5 := hg 5 _ rfl
    have h6 : DataW.trod enc Try.prog w base spare held m 3 (([c0, c1, c2, c3, c4, c5, c6, c7, c8, c9].drop 9).take (Try.prog.cellsOf 3)) = some y6 := hg 6 _ rfl
    rw [k22] at h0
    rw [k24] at h1 h2 h3
    rw [k3] at h4 h5 h6
    simp only [List.drop_zero, List.take_succ_cons, List.take_zero, List.drop_succ_cons] at h0 h1 h2 h3 h4 h5 h6
    obtain ⟨a, cap, ps, hp, hs⟩ := open_skies h0
    obtain ⟨e0, e1, he⟩ := span_cells h1
    obtain ⟨n0, n1, hn⟩ := span_cells h2
    obtain ⟨d0, d1, hd⟩ := span_cells h3
    obtain ⟨dep, hdep, _⟩ := DataW.trod_int Try.underlying3 h4
    obtain ⟨tim, htim, _⟩ := DataW.trod_int Try.underlying3 h5
    obtain ⟨gap, hgap, _⟩ := DataW.trod_int Try.underlying3 h6
    simp only [List.cons.injEq, and_true] at hp he hn hd hdep htim hgap
    obtain ⟨rfl, rfl⟩ := he
    obtain ⟨rfl, rfl⟩ := hn
    obtain ⟨rfl, rfl⟩ := hd
    subst hp hdep htim hgap
    exact ⟨a, cap, ⟨ps, e0, e1, n0, n1, d0, d1, dep, tim, gap⟩, rfl, hs⟩
end

end Go.Proofs.Ytlfemkelnllmnaa
