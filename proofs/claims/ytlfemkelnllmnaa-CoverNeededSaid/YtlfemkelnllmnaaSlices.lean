/- slices.IndexFunc and slices.ContainsFunc: a predicate that is any closure, over plates, sets of plates and functions. -/
import Derived.Test.YtlfemkelnllmnaaLib
set_option linter.all false
set_option linter.unusedVariables false
set_option linter.unusedSimpArgs false
namespace Go.Proofs.Ytlfemkelnllmnaa
open Go.RowKit

def skyRow (p : Sky) : List Value := [.int .i64 p.e0, .int .i64 p.e1, .int .i64 p.n0, .int .i64 p.n1, .int .i64 p.day, .int .i64 p.depth]
def setRow (s : Nat) : List Value := [.int .u64 (s : Int)]
def valRow (v : Value) : List Value := [v]

theorem idx_snoc {α : Type} (l : List α) (k : Nat) (hk : k < l.length) (p : α → Bool) (h : Hid ((l.take k).any p = false)) (hp : p l[k] = false) : Hid ((l.take (k + 1)).any p = false) := by
  unfold Hid at *
  rw [List.take_succ_eq_append_getElem hk, List.any_append, h]; simp [hp]
theorem idx_found {α : Type} (l : List α) (k : Nat) (hk : k < l.length) (p : α → Bool) (h : Hid ((l.take k).any p = false)) (hp : p l[k] = true) : idxOf p l = k := by
  unfold Hid at h
  have ha : l.any p = true := by rw [List.any_eq_true]; exact ⟨l[k], List.getElem_mem hk, hp⟩
  unfold idxOf
  rw [if_pos ha]
  congr 1
  rw [List.findIdx_eq hk]
  refine ⟨hp, fun j hj => ?_⟩
  rw [List.any_eq_false] at h
  have := h l[j] (by rw [List.mem_take_iff_getElem]; exact ⟨j, by omega, rfl⟩)
  simpa using this
theorem idx_none {α : Type} (l : List α) (k : Nat) (hk : l.length ≤ k) (p : α → Bool) (h : Hid ((l.take k).any p = false)) : idxOf p l = -1 := by
  unfold Hid at h
  rw [List.take_of_length_le hk] at h
  unfold idxOf
  rw [h]; rfl
theorem idx_dec {α : Type} (p : α → Bool) (l : List α) : decide (0 ≤ idxOf p l) = l.any p := by
  unfold idxOf
  cases h : l.any p
  · simp
  · simp

set_option maxHeartbeats 400000 in
set_option maxRecDepth 10000 in
theorem indexFuncSky (a : Option Addr) (cap : Nat) (l : List Sky) (g : Nat) (cv : Array Value) (p : Sky → Bool) (J : World → Prop) (w : World) (eg : ∀ args w, (callFunc g args).run Try.prog w = .ok (.enter g args) w)
    (hs : ∀ W, J W → SlW 6 skyRow W (.slice a l.length cap) l) (h0 : J w)
    (hg : ∀ x ∈ l, ∀ W, J W → Calls Try.prog g (#[.agg (skyRow x).toArray] ++ cv) W fun e W' => e = .returned (.bool (p x)) ∧ J W') :
    Calls Try.prog 75 #[.slice a l.length cap, .func (.func g) #[] cv] w fun e W => e = .returned (.int .i64 (idxOf p l)) ∧ J W := by
  have hlen : l.length ≤ 9223372036854775807 := by obtain ⟨_, _, _, h, _⟩ := hs w h0; exact h
  generalize hn : l.length = len at hlen
  have HN := Lib.hid hn; clear hn
  have HS := Lib.hid hs; clear hs
  have HG := Lib.hid hg; clear hg
  go_enter Try.func75, Try.ntmps75
  go_wp2
  go_loopw [5, 8, 15] (fun a b c wr => ∃ k : Nat, k ≤ len ∧ b = .int .i64 k ∧ J wr ∧ Hid ((l.take k).any p = false)) (fun _ b _ _ => len - (intOf b).toNat)
  case atStart => exact ⟨0, Nat.zero_le _, rfl, h0, by simp [Hid]⟩
  case round =>
    obtain ⟨k, hk, rfl, hJ, hnone⟩ := hrel
    by_cases hlt : k < len
    · obtain ⟨a', cap', hv, _, hx⟩ := HS.out wr hJ
      rcases hx with hx | ⟨b, off, ha, hb, hc⟩
      · exfalso; have := HN.out; rw [hx] at this; simp at this; omega
      cases hv
      subst ha
      have hkl : k < l.length := by rw [HN.out]; exact hlt
      have hc' := hc k hkl
      have c0 := hc' 0 (by simp [skyRow])
      have c1 := hc' 1 (by simp [skyRow])
      have c2 := hc' 2 (by simp [skyRow])
      have c3 := hc' 3 (by simp [skyRow])
      have c4 := hc' 4 (by simp [skyRow])
      have c5 := hc' 5 (by simp [skyRow])
      clear hc hc'
      simp only [skyRow, List.getElem_cons_zero, List.getElem_cons_succ, Nat.add_zero, Nat.mul_one] at c0 c1 c2 c3 c4 c5
      have hcall := HG.out l[k] (List.getElem_mem hkl) wr hJ
      try simp only [skyRow] at hcall
      have HC := Lib.hid hcall; clear hcall
      have HP : ∀ v, p l[k] = v → Hid (p l[k] = v) := fun _ h => h
      go_wp2_with fail
      refine HC.out.mono ?_
      rintro e W' ⟨rfl, hJ'⟩
      generalize hpp : p l[k] = bb at HP
      have HPP := Lib.hid hpp; clear hpp
      cases bb
      · go_wp2_with fail
        go_roundw
        case rel => exact ⟨k + 1, by omega, by go_num, hJ', idx_snoc l k hkl p hnone HPP.out⟩
        case measure => simp [intOf]; omega
      · go_wp2_with fail
        go_ret
        exact ⟨ret_int (idx_found l k hkl p hnone HPP.out).symm, hJ'⟩
    · go_wp2_with fail
      go_ret
      exact ⟨ret_int (idx_none l k (by have := HN.out; omega) p hnone).symm, hJ⟩

set_option maxHeartbeats 400000 in
theorem containsFuncSky (a : Option Addr) (cap : Nat) (l : List Sky) (g : Nat) (cv : Array Value) (p : Sky → Bool) (J : World → Prop) (w : World) (eg : ∀ args w, (callFunc g args).run Try.prog w = .ok (.enter g args) w)
    (hs : ∀ W, J W → SlW 6 skyRow W (.slice a l.length cap) l) (h0 : J w)
    (hg : ∀ x ∈ l, ∀ W, J W → Calls Try.prog g (#[.agg (skyRow x).toArray] ++ cv) W fun e W' => e = .returned (.bool (p x)) ∧ J W') :
    Calls Try.prog 64 #[.slice a l.length cap, .func (.func g) #[] cv] w fun e W => e = .returned (.bool (l.any p)) ∧ J W := by
  have hI := indexFuncSky a cap l g cv p J w eg hs h0 hg
  have HI := Lib.hid hI; clear hI hs hg
  have hd := idx_dec p l
  have HD := Lib.hid hd; clear hd
  generalize idxOf p l = ii at HI HD
  generalize l.any p = bb at HD
  go_enter Try.func64, Try.ntmps64
  go_wp2_with fail
  refine HI.out.mono ?_
  rintro e W' ⟨rfl, hJ'⟩
  cases bb
  · have := HD.out
    have hi : ¬ 0 ≤ ii := by simpa using HD.out
    go_wp2_with fail
    go_ret
    exact ⟨rfl, hJ'⟩
  · have hi : 0 ≤ ii := by simpa using HD.out
    go_wp2_with fail
    go_ret
    exact ⟨rfl, hJ'⟩

set_option maxHeartbeats 400000 in
set_option maxRecDepth 10000 in
theorem indexFuncSet (a : Option Addr) (cap : Nat) (l : List Nat) (g : Nat) (cv : Array Value) (p : Nat → Bool) (J : World → Prop) (w : World) (eg : ∀ args w, (callFunc g args).run Try.prog w = .ok (.enter g args) w)
    (hs : ∀ W, J W → SlW 1 setRow W (.slice a l.length cap) l) (h0 : J w)
    (hg : ∀ x ∈ l, ∀ W, J W → Calls Try.prog g (#[.int .u64 (x : Int)] ++ cv) W fun e W' => e = .returned (.bool (p x)) ∧ J W') :
    Calls Try.prog 70 #[.slice a l.length cap, .func (.func g) #[] cv] w fun e W => e = .returned (.int .i64 (idxOf p l)) ∧ J W := by
  have hlen : l.length ≤ 9223372036854775807 := by obtain ⟨_, _, _, h, _⟩ := hs w h0; exact h
  generalize hn : l.length = len at hlen
  have HN := Lib.hid hn; clear hn
  have HS := Lib.hid hs; clear hs
  have HG := Lib.hid hg; clear hg
  go_enter Try.func70, Try.ntmps70
  go_wp2
  go_loopw [5, 8, 15] (fun a b c wr => ∃ k : Nat, k ≤ len ∧ b = .int .i64 k ∧ J wr ∧ Hid ((l.take k).any p = false)) (fun _ b _ _ => len - (intOf b).toNat)
  case atStart => exact ⟨0, Nat.zero_le _, rfl, h0, by simp [Hid]⟩
  case round =>
    obtain ⟨k, hk, rfl, hJ, hnone⟩ := hrel
    by_cases hlt : k < len
    · obtain ⟨a', cap', hv, _, hx⟩ := HS.out wr hJ
      rcases hx with hx | ⟨b, off, ha, hb, hc⟩
      · exfalso; have := HN.out; rw [hx] at this; simp at this; omega
      cases hv
      subst ha
      have hkl : k < l.length := by rw [HN.out]; exact hlt
      have hc' := hc k hkl
      have c0 := hc' 0 (by simp [setRow])
      clear hc hc'
      simp only [setRow, List.getElem_cons_zero, List.getElem_cons_succ, Nat.add_zero, Nat.mul_one] at c0
      have hcall := HG.out l[k] (List.getElem_mem hkl) wr hJ
      try simp only [setRow] at hcall
      have HC := Lib.hid hcall; clear hcall
      have HP : ∀ v, p l[k] = v → Hid (p l[k] = v) := fun _ h => h
      go_wp2_with fail
      refine HC.out.mono ?_
      rintro e W' ⟨rfl, hJ'⟩
      generalize hpp : p l[k] = bb at HP
      have HPP := Lib.hid hpp; clear hpp
      cases bb
      · go_wp2_with fail
        go_roundw
        case rel => exact ⟨k + 1, by omega, by go_num, hJ', idx_snoc l k hkl p hnone HPP.out⟩
        case measure => simp [intOf]; omega
      · go_wp2_with fail
        go_ret
        exact ⟨ret_int (idx_found l k hkl p hnone HPP.out).symm, hJ'⟩
    · go_wp2_with fail
      go_ret
      exact ⟨ret_int (idx_none l k (by have := HN.out; omega) p hnone).symm, hJ⟩

set_option maxHeartbeats 400000 in
theorem containsFuncSet (a : Option Addr) (cap : Nat) (l : List Nat) (g : Nat) (cv : Array Value) (p : Nat → Bool) (J : World → Prop) (w : World) (eg : ∀ args w, (callFunc g args).run Try.prog w = .ok (.enter g args) w)
    (hs : ∀ W, J W → SlW 1 setRow W (.slice a l.length cap) l) (h0 : J w)
    (hg : ∀ x ∈ l, ∀ W, J W → Calls Try.prog g (#[.int .u64 (x : Int)] ++ cv) W fun e W' => e = .returned (.bool (p x)) ∧ J W') :
    Calls Try.prog 55 #[.slice a l.length cap, .func (.func g) #[] cv] w fun e W => e = .returned (.bool (l.any p)) ∧ J W := by
  have hI := indexFuncSet a cap l g cv p J w eg hs h0 hg
  have HI := Lib.hid hI; clear hI hs hg
  have hd := idx_dec p l
  have HD := Lib.hid hd; clear hd
  generalize idxOf p l = ii at HI HD
  generalize l.any p = bb at HD
  go_enter Try.func55, Try.ntmps55
  go_wp2_with fail
  refine HI.out.mono ?_
  rintro e W' ⟨rfl, hJ'⟩
  cases bb
  · have := HD.out
    have hi : ¬ 0 ≤ ii := by simpa using HD.out
    go_wp2_with fail
    go_ret
    exact ⟨rfl, hJ'⟩
  · have hi : 0 ≤ ii := by simpa using HD.out
    go_wp2_with fail
    go_ret
    exact ⟨rfl, hJ'⟩

set_option maxHeartbeats 400000 in
set_option maxRecDepth 10000 in
theorem indexFuncFun (a : Option Addr) (cap : Nat) (l : List Value) (g : Nat) (cv : Array Value) (p : Value → Bool) (J : World → Prop) (w : World) (eg : ∀ args w, (callFunc g args).run Try.prog w = .ok (.enter g args) w)
    (hs : ∀ W, J W → SlW 1 valRow W (.slice a l.length cap) l) (h0 : J w)
    (hg : ∀ x ∈ l, ∀ W, J W → Calls Try.prog g (#[x] ++ cv) W fun e W' => e = .returned (.bool (p x)) ∧ J W') :
    Calls Try.prog 65 #[.slice a l.length cap, .func (.func g) #[] cv] w fun e W => e = .returned (.int .i64 (idxOf p l)) ∧ J W := by
  have hlen : l.length ≤ 9223372036854775807 := by obtain ⟨_, _, _, h, _⟩ := hs w h0; exact h
  generalize hn : l.length = len at hlen
  have HN := Lib.hid hn; clear hn
  have HS := Lib.hid hs; clear hs
  have HG := Lib.hid hg; clear hg
  go_enter Try.func65, Try.ntmps65
  go_wp2
  go_loopw [5, 8, 15] (fun a b c wr => ∃ k : Nat, k ≤ len ∧ b = .int .i64 k ∧ J wr ∧ Hid ((l.take k).any p = false)) (fun _ b _ _ => len - (intOf b).toNat)
  case atStart => exact ⟨0, Nat.zero_le _, rfl, h0, by simp [Hid]⟩
  case round =>
    obtain ⟨k, hk, rfl, hJ, hnone⟩ := hrel
    by_cases hlt : k < len
    · obtain ⟨a', cap', hv, _, hx⟩ := HS.out wr hJ
      rcases hx with hx | ⟨b, off, ha, hb, hc⟩
      · exfalso; have := HN.out; rw [hx] at this; simp at this; omega
      cases hv
      subst ha
      have hkl : k < l.length := by rw [HN.out]; exact hlt
      have hc' := hc k hkl
      have c0 := hc' 0 (by simp [valRow])
      clear hc hc'
      simp only [valRow, List.getElem_cons_zero, List.getElem_cons_succ, Nat.add_zero, Nat.mul_one] at c0
      have hcall := HG.out l[k] (List.getElem_mem hkl) wr hJ
      try simp only [valRow] at hcall
      have HC := Lib.hid hcall; clear hcall
      have HP : ∀ v, p l[k] = v → Hid (p l[k] = v) := fun _ h => h
      go_wp2_with fail
      refine HC.out.mono ?_
      rintro e W' ⟨rfl, hJ'⟩
      generalize hpp : p l[k] = bb at HP
      have HPP := Lib.hid hpp; clear hpp
      cases bb
      · go_wp2_with fail
        go_roundw
        case rel => exact ⟨k + 1, by omega, by go_num, hJ', idx_snoc l k hkl p hnone HPP.out⟩
        case measure => simp [intOf]; omega
      · go_wp2_with fail
        go_ret
        exact ⟨ret_int (idx_found l k hkl p hnone HPP.out).symm, hJ'⟩
    · go_wp2_with fail
      go_ret
      exact ⟨ret_int (idx_none l k (by have := HN.out; omega) p hnone).symm, hJ⟩

set_option maxHeartbeats 400000 in
theorem containsFuncFun (a : Option Addr) (cap : Nat) (l : List Value) (g : Nat) (cv : Array Value) (p : Value → Bool) (J : World → Prop) (w : World) (eg : ∀ args w, (callFunc g args).run Try.prog w = .ok (.enter g args) w)
    (hs : ∀ W, J W → SlW 1 valRow W (.slice a l.length cap) l) (h0 : J w)
    (hg : ∀ x ∈ l, ∀ W, J W → Calls Try.prog g (#[x] ++ cv) W fun e W' => e = .returned (.bool (p x)) ∧ J W') :
    Calls Try.prog 50 #[.slice a l.length cap, .func (.func g) #[] cv] w fun e W => e = .returned (.bool (l.any p)) ∧ J W := by
  have hI := indexFuncFun a cap l g cv p J w eg hs h0 hg
  have HI := Lib.hid hI; clear hI hs hg
  have hd := idx_dec p l
  have HD := Lib.hid hd; clear hd
  generalize idxOf p l = ii at HI HD
  generalize l.any p = bb at HD
  go_enter Try.func50, Try.ntmps50
  go_wp2_with fail
  refine HI.out.mono ?_
  rintro e W' ⟨rfl, hJ'⟩
  cases bb
  · have := HD.out
    have hi : ¬ 0 ≤ ii := by simpa using HD.out
    go_wp2_with fail
    go_ret
    exact ⟨rfl, hJ'⟩
  · have hi : 0 ≤ ii := by simpa using HD.out
    go_wp2_with fail
    go_ret
    exact ⟨rfl, hJ'⟩

end Go.Proofs.Ytlfemkelnllmnaa
