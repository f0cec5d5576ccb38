/- (*cover.field).serves: whether plates serve a place. -/
import Derived.Test.YtlfemkelnllmnaaKinds
import Derived.Test.YtlfemkelnllmnaaBits
import Derived.Test.YtlfemkelnllmnaaShelf
import Derived.Sort.OwnSortedInts
set_option linter.all false
set_option linter.unusedVariables false
set_option linter.unusedSimpArgs false
namespace Go.Proofs.Ytlfemkelnllmnaa
open Go.RowKit

/-- By rising days, each one that is far enough from the one before it is taken. -/
def takeS (gap : Int) (s : Int × Int) (d : Int) : Int × Int := if s.1 = 0 ∨ gap ≤ d - s.2 then (s.1 + 1, d) else s
def takeL (gap : Int) (l : List Int) : Int × Int := l.foldl (takeS gap) (0, 0)
/-- The days of those of the first n plates that are in a set. -/
def daysN (x : Fld) (s : Nat) : Nat → List Int
  | 0 => []
  | n + 1 => daysN x s n ++ (if s.testBit n then [(x.ps.getD n default).day] else [])
def sortI (l : List Int) : List Int := l.mergeSort fun a b => decide (a ≤ b)
def servesB (x : Fld) (s : Nat) : Bool := decide (x.times ≤ (takeL x.gap (sortI (daysN x s x.ps.length))).1)

set_option maxHeartbeats 1000000 in
theorem take_calls (b2 b8 b9 bf : Nat) (n last day gap : Int) (w : World) (h89 : b8 < b9) (h2 : b2 < b8) (hf : bf < b8) (x8 : Boxed w b8 3 (.int .i64 n)) (x9 : Boxed w b9 3 (.int .i64 last)) (c2 : w.cell? ⟨b2, 0, none⟩ = some (.pointer (some ⟨bf, 0, none⟩))) (cg : w.cell? ⟨bf, 9, none⟩ = some (.int .i64 gap))
    (bn : 0 ≤ n) (bn2 : n ≤ 1000) (bd : 0 ≤ day) (bd2 : day ≤ 65536) (bl : 0 ≤ last) (bl2 : last ≤ 65536) :
    Calls Try.prog 60 #[.int .i64 day, .pointer (some ⟨b8, 0, none⟩), .pointer (some ⟨b9, 0, none⟩), .pointer (some ⟨b2, 0, none⟩)] w fun e w' => e = .returned (.tuple #[]) ∧
      Boxed w' b8 3 (.int .i64 (takeS gap (n, last) day).1) ∧ Boxed w' b9 3 (.int .i64 (takeS gap (n, last) day).2) ∧ Below b8 w w' := by
  have c8 := x8.cell; have c9 := x9.cell; have f8 := x8.frozen; have f9 := x9.frozen
  have l8 := x8.lt; have l9 := x9.lt
  have l2 : b2 < w.heap.size := by omega
  have lf : bf < w.heap.size := by omega
  have X8 := Lib.hid x8; have X9 := Lib.hid x9; clear x8 x9
  by_cases h0 : n = 0
  · subst h0
    have hb : ((0 : Int) == 0) = true := rfl
    have hv : takeS gap (0, last) day = (0 + 1, day) := by simp [takeS]
    have HV := Lib.hid hv; clear hv
    go_enter Try.func60, Try.ntmps60
    go_wp2_with fail
    refine GW.region w (by kernel_rfl) (by kernel_rfl) (Up.refl _) ?_
    repeat (go_big_quiet_step (fail))
    refine wpQuiet_nil ?_
    rintro _ ⟨g, rfl⟩
    go_wp2
    first | go_end0 | refine bodyPost_ret (results_none rfl _ _ _) rfl ?_
    rw [HV.out]
    have y8 := X8.out.kept g.grown (by simp)
    have y9 := X9.out.kept g.grown (by simp)
    exact ⟨rfl, (y8.set _).other (B' := b9) (by omega) _, ((y9.other (B' := b8) (by omega) _).set _), ((g.h.mono (B' := b8) (by omega)).setCell (p := ⟨b8, 0, none⟩) (Nat.le_refl _) _).setCell (p := ⟨b9, 0, none⟩) (by show b8 ≤ b9; omega) _⟩
  · have hb : ((n : Int) == 0) = false := by simpa using h0
    by_cases hc : gap ≤ day - last
    · have hv : takeS gap (n, last) day = (n + 1, day) := by simp [takeS, hc]
      have HV := Lib.hid hv; clear hv
      go_enter Try.func60, Try.ntmps60
      go_wp2_with fail
      refine GW.region w (by kernel_rfl) (by kernel_rfl) (Up.refl _) ?_
      repeat (go_big_quiet_step (fail))
      refine wpQuiet_nil ?_
      rintro _ ⟨g, rfl⟩
      go_wp2
      first | go_end0 | refine bodyPost_ret (results_none rfl _ _ _) rfl ?_
      rw [HV.out]
      have y8 := X8.out.kept g.grown (by simp)
      have y9 := X9.out.kept g.grown (by simp)
      exact ⟨rfl, (y8.set _).other (B' := b9) (by omega) _, ((y9.other (B' := b8) (by omega) _).set _), ((g.h.mono (B' := b8) (by omega)).setCell (p := ⟨b8, 0, none⟩) (Nat.le_refl _) _).setCell (p := ⟨b9, 0, none⟩) (by show b8 ≤ b9; omega) _⟩
    · have hv : takeS gap (n, last) day = (n, last) := by simp [takeS, hc, h0]
      have HV := Lib.hid hv; clear hv
      go_enter Try.func60, Try.ntmps60
      go_wp2_with fail
      refine GW.region w (by kernel_rfl) (by kernel_rfl) (Up.refl _) ?_
      repeat (go_big_quiet_step (fail))
      refine wpQuiet_nil ?_
      rintro _ ⟨g, rfl⟩
      go_wp2
      first | go_end0 | refine bodyPost_ret (results_none rfl _ _ _) rfl ?_
      rw [HV.out]
      exact ⟨rfl, X8.out.kept g.grown (by simp), X9.out.kept g.grown (by simp), g.h.mono (by omega)⟩


theorem take_enters (args : Array Value) (w : World) : (callFunc 60 args).run Try.prog w = .ok (.enter 60 args) w := by go_simp
theorem Try.infoInt : (Try.prog.info? 3).map (fun i => (i.zero, i.size, i.bytes)) = some (some (.int .i64 0), 1, 8) := by kernel_rfl
theorem days_len (x : Fld) (s : Nat) : ∀ n, (daysN x s n).length ≤ n
  | 0 => by simp [daysN]
  | n + 1 => by have := days_len x s n; rw [daysN, List.length_append]; split <;> simp <;> omega
theorem days_bound {x : Fld} (hv : validB x = true) (s : Nat) : ∀ n, n ≤ x.ps.length → ∀ d ∈ daysN x s n, 0 ≤ d ∧ d ≤ 65536
  | 0, _ => by simp [daysN]
  | n + 1, hn => by
    intro d hd
    rw [daysN, List.mem_append] at hd
    rcases hd with hd | hd
    · exact days_bound hv s n (by omega) d hd
    · split at hd
      · simp only [List.mem_singleton] at hd
        subst hd
        have hb := (valid_bounds hv).2.2.2.2.2.2.2 (x.ps[n]) (List.getElem_mem (by omega))
        have := (sky_bounds hb).2.2.1
        simp [show n < x.ps.length by omega]
        exact this
      · simp at hd
theorem sort_len (l : List Int) : (sortI l).length = l.length := by simp [sortI]

open Go.Sort in
/-- The library's sort, on a slice of the call's own. -/
theorem sort_calls {base : Nat} {v : Value} {l : List Int} (w : World) (hl : l.length < 4611686018427387904) (h : w.ownsRow base 3 1 v l.length (l.map (Value.int .i64))) :
    Calls Try.prog 59 #[v] w fun e w' => e = .returned (.tuple #[]) ∧ w'.ownsRow base 3 1 v l.length ((sortI l).map (Value.int .i64)) ∧ w.grownBy w' v.ownBlock := by
  have h' := h
  rcases h.2 with ⟨rfl, h0⟩ | ⟨g, cap, cur, rfl, hB, hg, hcap, hmax, hsz, htake⟩
  · obtain rfl : l = [] := List.length_eq_zero_iff.1 h0
    refine (Try.slices_Sort_int_none none 0 w).mono ?_
    rintro e _ ⟨rfl, rfl⟩
    exact ⟨rfl, by simpa [sortI] using World.ownsRow_nil _ _ _ _, rfl, rfl, rfl, Nat.le_refl _, fun _ _ _ => rfl⟩
  · rw [Nat.mul_one] at htake
    refine (Try.slices_Sort_int g 0 cap l w (holds_of_blockI hg htake) (Array.getElem?_eq_some_iff.1 hg).1 hl).mono ?_
    rintro e w' ⟨rfl, n, os, rfl⟩
    exact ⟨rfl, ownsRow_sortedI (sort_len l) hB hg hcap hmax hsz, grownBy_sortedI _⟩

def intRow (n : Int) : List Value := [.int .i64 n]
theorem map_int (l : List Int) : l.map (Value.int .i64) = l.flatMap intRow := by
  induction l with
  | nil => rfl
  | cons a l ih => simp [intRow, ih]
theorem takeL_snoc (gap : Int) (l : List Int) (d : Int) : takeL gap (l ++ [d]) = takeS gap (takeL gap l) d := by unfold takeL; rw [List.foldl_append]; rfl
theorem takeL_bounds (gap : Int) (l : List Int) (h : ∀ d ∈ l, 0 ≤ d ∧ d ≤ 65536) : (0 ≤ (takeL gap l).1 ∧ (takeL gap l).1 ≤ l.length) ∧ 0 ≤ (takeL gap l).2 ∧ (takeL gap l).2 ≤ 65536 := by
  have key : ∀ (l : List Int) (st : Int × Int) (n : Nat), (0 ≤ st.1 ∧ st.1 ≤ n) → (0 ≤ st.2 ∧ st.2 ≤ 65536) → (∀ d ∈ l, 0 ≤ d ∧ d ≤ 65536) → (0 ≤ (l.foldl (takeS gap) st).1 ∧ (l.foldl (takeS gap) st).1 ≤ (n + l.length : Nat)) ∧ 0 ≤ (l.foldl (takeS gap) st).2 ∧ (l.foldl (takeS gap) st).2 ≤ 65536 := by
    intro l
    induction l with
    | nil => intro st n h1 h2 _; simpa using ⟨h1, h2⟩
    | cons d l ih =>
      intro st n h1 h2 h3
      have hd := h3 d List.mem_cons_self
      have := ih (takeS gap st d) (n + 1) (by unfold takeS; split <;> first | omega | (dsimp only; omega)) (by unfold takeS; split <;> first | omega | (dsimp only; omega)) (fun e he => h3 e (List.mem_cons_of_mem _ he))
      rw [List.foldl_cons, List.length_cons]
      have e : n + 1 + l.length = n + (l.length + 1) := by omega
      rw [e] at this
      exact this
  have := key l (0, 0) 0 (by simp) (by simp) h
  simpa [takeL] using this
theorem ownBlock_le {w : World} {base e size n : Nat} {v : Value} {xs : List Value} (h : w.ownsRow base e size v n xs) : ∀ k, v.ownBlock = some k → base ≤ k := fun k e => (h.lt k e).1

set_option maxHeartbeats 2000000 in
set_option maxRecDepth 10000 in
theorem serves_calls (bf : Nat) (a : Option Addr) (cap : Nat) (x : Fld) (s : Nat) (w : World) (hv : validB x = true) (hs : s < 4096) (um mb : Nat) (hf : FieldC w bf a cap x um mb) (hps : SlW 6 skyRow w (.slice a x.ps.length cap) x.ps) :
    Calls Try.prog 37 #[.pointer (some ⟨bf, 0, none⟩), .int .u64 (s : Int)] w fun e w' => e = .returned (.bool (servesB x s)) ∧ Below w.heap.size w w' := by
  obtain ⟨_, _, _, _, ⟨xt1, xt2⟩, _, hlen, _⟩ := valid_bounds hv
  have HDB := Lib.hid (days_bound hv s)
  have HV := Lib.hid hv; clear hv
  have hbl := hf.lt
  have HF := Lib.hid hf; clear hf
  have HPS := Lib.hid hps; clear hps
  obtain ⟨i0, hi, hz0, hz1, hz2⟩ := info_parts Try.infoInt
  generalize hn : x.ps.length = len at *
  have HN := Lib.hid hn; clear hn
  have hcf : ∀ o v, w.cell? ⟨bf, o, none⟩ = some v → (w.alloc (.cells #[.pointer (some ⟨bf, 0, none⟩)] 58)).cell? ⟨bf, o, none⟩ = some v := fun o v h => ((Up.alloc _ (Up.refl w)).cell (p := ⟨bf, o, none⟩) hbl).trans h
  have c0 := hcf 0 _ HF.out.c0
  rw [HN.out] at c0
  clear hcf
  go_enter Try.func37, Try.ntmps37
  go_wp2
  go_loopw [5, 19] (fun v i wr => ∃ k : Nat, k ≤ len ∧ i = .int .i64 k ∧ wr.ownsRow (w.heap.size + 1) 3 1 v (daysN x s k).length ((daysN x s k).map (Value.int .i64)) ∧ Below (w.heap.size + 1) (w.alloc (.cells #[.pointer (some ⟨bf, 0, none⟩)] 58)) wr) (fun _ i _ => len - (intOf i).toNat)
  case atStart => exact ⟨0, Nat.zero_le _, rfl, World.ownsRow_nil _ _ _ _, Below.refl _ _⟩
  case round =>
    clear c0
    obtain ⟨k, hk, rfl, hrow, hB⟩ := hrel
    obtain ⟨g, rfl⟩ := GW.of hB
    by_cases hlt : k < len
    · obtain ⟨a', cap', hva, _, hx⟩ := HPS.out
      rcases hx with hx | ⟨b, off, ha, hblk, hc⟩
      · exfalso; have := HN.out; rw [hx] at this; simp at this; omega
      cases hva
      subst ha
      have hkl : k < x.ps.length := by rw [HN.out]; exact hlt
      have hblk1 : b < w.heap.size + 1 := by omega
      have hpp : x.ps.getD k default = x.ps[k] := by simp [hkl]
      have hdn : daysN x s (k + 1) = daysN x s k ++ (if s.testBit k then [(x.ps[k]).day] else []) := by rw [daysN, hpp]
      have hcc : ∀ j (hj : j < (skyRow x.ps[k]).length), (w.alloc (.cells #[.pointer (some ⟨bf, 0, none⟩)] 58)).cell? ⟨b, off + k * 6 + j, none⟩ = some (skyRow x.ps[k])[j] := fun j hj => ((Up.alloc _ (Up.refl w)).cell (p := ⟨b, off + k * 6 + j, none⟩) hblk).trans (hc k hkl j hj)
      clear hc hpp
      generalize x.ps[k] = p at hcc hdn
      have s0 := hcc 0 (by simp [skyRow])
      have s1 := hcc 1 (by simp [skyRow])
      have s2 := hcc 2 (by simp [skyRow])
      have s3 := hcc 3 (by simp [skyRow])
      have s4 := hcc 4 (by simp [skyRow])
      have s5 := hcc 5 (by simp [skyRow])
      clear hcc
      simp only [skyRow, List.getElem_cons_zero, List.getElem_cons_succ, Nat.add_zero] at s0 s1 s2 s3 s4 s5
      have hdl := days_len x s k
      have hgs := hB.size
      simp only [World.size_alloc] at hgs
      have HR := Lib.hid hrow; have HBB := Lib.hid hB
      clear hrow hB
      generalize hbit : s.testBit k = bit at hdn
      have HBIT := Lib.hid hbit; have HDN := Lib.hid hdn
      clear hbit hdn
      cases bit
      · go_wp2_with (go_at_call 38; refine (has_calls s k _ hs (by omega)).mono ?_; rintro e _ ⟨rfl, rfl⟩; rw [HBIT.out])
        go_roundw
        case rel => exact ⟨k + 1, by omega, by go_num, by rw [HDN.out]; simpa using HR.out.alloc _, HBB.out.trans ((Below.refl _ _).alloc (by omega) _)⟩
        case measure => simp [intOf]; omega
      · go_wp2_with (first | (go_at_call 38; refine (has_calls s k _ hs (by omega)).mono ?_; rintro e _ ⟨rfl, rfl⟩; rw [HBIT.out]) | (at_builtin; go_must (refine wpList_append_own _ rfl _ _ 104 rfl (w.heap.size + 1) 3 i0 (.int .i64 0) 1 8 Try.underlying104 hi hz0 hz1 hz2 rfl (by decide) _ _ _ rfl ((HR.out.alloc _).alloc _) ⟨g.w.heap.size + 1, 0, none⟩ 1 1 [.int .i64 p.day] rfl rfl (new_cell_at (by simp)) (by simp [Value.oneCell']) (by unfold maxLen; omega) (by omega) (by simp <;> omega) ?_); intro v' w1 hown' hgrow _))
        refine ⟨⟨k + 1, by omega, by go_num, by rw [HDN.out]; simpa using hown', ?_⟩, by simp [intOf]; omega⟩
        exact ((HBB.out.alloc (by omega) _).alloc (by simp; omega) _).grown hgrow (by simp; omega) (ownBlock_le HR.out)
    · obtain rfl : k = len := by omega
      have hdl := days_len x s k
      have hsort := fun (V : Value) (W : World) => @sort_calls (w.heap.size + 1) V (daysN x s k) W (by omega)
      have HSO := Lib.hid hsort; clear hsort
      go_wp2_with fail
      refine (HSO.out _ _ hrow).mono ?_
      rintro e w2 ⟨rfl, hrow2, hg2⟩
      have hB2 := hB.grown hg2 (by have := hB.size; simp at this; omega) (ownBlock_le hrow)
      have hsl : SlW 1 intRow w2 u5 (sortI (daysN x s k)) := by
        rw [map_int, ← sort_len] at hrow2
        exact slW_of_owns (E := 1) (row := intRow) (fun _ => rfl) hrow2
      have hLd : ∀ d ∈ sortI (daysN x s k), 0 ≤ d ∧ d ≤ 65536 := fun d hd => HDB.out k (by have := HN.out; omega) d (by unfold sortI at hd; exact List.mem_mergeSort.1 hd)
      have hLl : (sortI (daysN x s k)).length ≤ 12 := by rw [sort_len]; omega
      have hsv : servesB x s = decide (x.times ≤ (takeL x.gap (sortI (daysN x s k))).1) := by unfold servesB; rw [HN.out]
      obtain ⟨a3, cap3, hv3, _, hx3⟩ := hsl
      subst hv3
      have HLD := Lib.hid hLd; have HSV := Lib.hid hsv; have HX3 := Lib.hid hx3
      clear hLd hsv hx3 hrow hrow2 HSO
      generalize sortI (daysN x s k) = L at *
      obtain ⟨g2, rfl⟩ := GW.of hB2
      have hg2s := hB2.size
      simp only [World.size_alloc] at hg2s
      have hb2lt : w.heap.size < g2.w.heap.size := by omega
      have hbflt : bf < g2.w.heap.size := by omega
      have hbflt1 : bf < g2.w.heap.size + 1 := by omega
      have hb2lt1 : w.heap.size < g2.w.heap.size + 1 := by omega
      have y8 := (Boxed.new g2.w 3 (.int .i64 0)).alloc (.cells #[.int .i64 0] 3)
      have y9 := Boxed.new (g2.w.alloc (.cells #[.int .i64 0] 3)) 3 (.int .i64 0)
      rw [World.size_alloc] at y9
      have Y8 := Lib.hid y8; have Y9 := Lib.hid y9; clear y8 y9
      go_wp2
      go_loopw [38] (fun i wr => ∃ j : Nat, j ≤ L.length ∧ i = .int .i64 j ∧ Boxed wr g2.w.heap.size 3 (.int .i64 (takeL x.gap (L.take j)).1) ∧ Boxed wr (g2.w.heap.size + 1) 3 (.int .i64 (takeL x.gap (L.take j)).2) ∧ Below g2.w.heap.size ((g2.w.alloc (.cells #[.int .i64 0] 3)).alloc (.cells #[.int .i64 0] 3)) wr) (fun i _ => L.length - (intOf i).toNat)
      case atStart => exact ⟨0, Nat.zero_le _, rfl, by simpa [takeL] using Y8.out, by simpa [takeL] using Y9.out, Below.refl _ _⟩
      case round =>
        obtain ⟨j, hj, rfl, x8, x9, hB4⟩ := hrel
        obtain ⟨g4, rfl⟩ := GW.of hB4
        by_cases hjl : j < L.length
        · rcases HX3.out with hx | ⟨b, off, ha, hblk, hc⟩
          · exfalso; rw [hx] at hjl; simp at hjl
          subst ha
          have hcj := hc j hjl 0 (by simp [intRow])
          simp only [intRow, List.getElem_cons_zero, Nat.mul_one, Nat.add_zero] at hcj
          have hld := HLD.out L[j] (List.getElem_mem hjl)
          have htb := takeL_bounds x.gap (L.take j) (fun d hd => HLD.out d (List.mem_of_mem_take hd))
          have htl : (L.take j).length ≤ 12 := by simp; omega
          have htake : takeL x.gap (L.take (j + 1)) = takeS x.gap (takeL x.gap (L.take j)) L[j] := by rw [List.take_succ_eq_append_getElem hjl]; exact takeL_snoc _ _ _
          have HTK := Lib.hid htake; clear htake hc
          generalize L[j] = dj at *
          generalize takeL x.gap (L.take j) = st at *
          obtain ⟨n0, last⟩ := st
          obtain ⟨⟨t1, t2⟩, t3, t4⟩ := htb
          dsimp only at t1 t2 t3 t4 x8 x9
          have t5 : n0 ≤ 1000 := by omega
          have hcg : g4.w.cell? ⟨bf, 9, none⟩ = some (.int .i64 x.gap) := by
            have h1 := HF.out.c9
            go_simp
          have hc2 : g4.w.cell? ⟨w.heap.size, 0, none⟩ = some (.pointer (some ⟨bf, 0, none⟩)) := by go_simp
          have hcall := take_calls w.heap.size g2.w.heap.size (g2.w.heap.size + 1) bf n0 last dj x.gap g4.w (by omega) (by omega) (by omega) x8 x9 hc2 hcg t1 t5 hld.1 hld.2 t3 t4
          have HC := Lib.hid hcall; clear hcall
          have hblk2 : b < g2.w.heap.size := hblk
          clear x8 x9 hcg hc2
          go_wp2_with fail
          refine HC.out.mono ?_
          rintro e w5 ⟨rfl, z8, z9, hB5⟩
          go_wp2_with fail
          go_roundw
          case rel => exact ⟨j + 1, by omega, by go_num, by rw [HTK.out]; exact z8, by rw [HTK.out]; exact z9, hB4.trans hB5⟩
          case measure => simp [intOf]; omega
        · have hjj : j = L.length := by omega
          have hbt : L.take j = L := by rw [hjj]; exact List.take_length
          rw [hbt] at x8
          have hc8 := x8.cell
          have hl8 := x8.lt
          have hct : g4.w.cell? ⟨bf, 8, none⟩ = some (.int .i64 x.times) := by
            have h1 := HF.out.c8
            go_simp
          have hc2 : g4.w.cell? ⟨w.heap.size, 0, none⟩ = some (.pointer (some ⟨bf, 0, none⟩)) := by go_simp
          have hs4 : g2.w.heap.size < g4.w.heap.size := hl8
          have hs5 : w.heap.size < g4.w.heap.size := by omega
          have hs6 : bf < g4.w.heap.size := by omega
          have HHB := Lib.hid hbt
          clear hbt hjj x8 x9
          go_wp2_with fail
          refine GW.region g4.w (by kernel_rfl) (by kernel_rfl) (Up.refl _) ?_
          repeat (go_big_quiet_step (fail))
          refine wpQuiet_nil ?_
          rintro _ ⟨g5, rfl⟩
          go_wp2
          go_ret
          refine ⟨ret_bool HSV.out.symm, ?_⟩
          exact ((Up.alloc _ (Up.refl w)).trans ((hB2.mono (by omega)).trans ((Up.alloc _ (Up.alloc _ (Up.refl g2.w))).mono (by omega)))).trans ((hB4.mono (by omega)).trans (g5.h.mono (by omega)))
end Go.Proofs.Ytlfemkelnllmnaa
