/- (*cover.field).isList: a closure that tells whether a set is a list; all, isSet. -/
import Derived.Test.YtlfemkelnllmnaaServes
set_option linter.all false
set_option linter.unusedVariables false
set_option linter.unusedSimpArgs false
namespace Go.Proofs.Ytlfemkelnllmnaa
open Go.RowKit

/-- Whether a set serves every kind of place. -/
def listB (x : Fld) (s : Nat) : Bool := !(kindsOf x (placesL x)).any fun k => !servesB x (k &&& s)

theorem land_u64 (a b : Nat) (ha : a < 4096) (hb : b < 4096) : bits .and .u64 (a : Int) (b : Int) = ((a &&& b : Nat) : Int) := u64_and_nat _ _ (by omega) (by omega)
theorem land_lt (a b : Nat) (ha : a < 4096) : a &&& b < 4096 := Nat.lt_of_le_of_lt Nat.and_le_left ha

set_option maxHeartbeats 1000000 in
theorem list11_calls (bf bx by' : Nat) (a : Option Addr) (cap : Nat) (x : Fld) (k s : Nat) (w : World) (hv : validB x = true) (hk : k < 4096) (hs : s < 4096) (um mb : Nat) (hf : FieldC w bf a cap x um mb) (hps : SlW 6 skyRow w (.slice a x.ps.length cap) x.ps)
    (cx : w.cell? ⟨bx, 0, none⟩ = some (.pointer (some ⟨bf, 0, none⟩))) (cy : w.cell? ⟨by', 0, none⟩ = some (.int .u64 (s : Int))) :
    Calls Try.prog 56 #[.int .u64 (k : Int), .pointer (some ⟨bx, 0, none⟩), .pointer (some ⟨by', 0, none⟩)] w fun e w' => e = .returned (.bool (!servesB x (k &&& s))) ∧ Below w.heap.size w w' := by
  have h := serves_calls bf a cap x (k &&& s) w hv (land_lt k s hk) um mb hf hps
  have H := Lib.hid h; have hla := land_u64 k s hk hs
  clear h hf hps
  go_enter Try.func56, Try.ntmps56
  go_wp2_with fail
  refine H.out.mono ?_
  rintro e w1 ⟨rfl, hb⟩
  go_wp2
  go_ret
  exact ⟨rfl, hb⟩

theorem list11_enters (args : Array Value) (w : World) : (callFunc 56 args).run Try.prog w = .ok (.enter 56 args) w := by go_simp
theorem list1_enters (args : Array Value) (w : World) : (callFunc 54 args).run Try.prog w = .ok (.enter 54 args) w := by go_simp

/-- What the closure of isList has captured. -/
structure ListC (w : World) (bk bx bf : Nat) (a : Option Addr) (cap : Nat) (x : Fld) (um mb : Nat) : Prop where
  lk : bk < w.heap.size
  lx : bx < w.heap.size
  f : FieldC w bf a cap x um mb
  ps : SlW 6 skyRow w (.slice a x.ps.length cap) x.ps
  ck : ∃ v, w.cell? ⟨bk, 0, none⟩ = some v ∧ SlW 1 setRow w v (kindsOf x (placesL x))
  cx : w.cell? ⟨bx, 0, none⟩ = some (.pointer (some ⟨bf, 0, none⟩))
theorem ListC.below {w w' : World} {bk bx bf : Nat} {a : Option Addr} {cap : Nat} {x : Fld} {um mb : Nat} (h : ListC w bk bx bf a cap x um mb) {B : Nat} (hB : w.heap.size ≤ B) (hb : Below B w w') : ListC w' bk bx bf a cap x um mb := by
  obtain ⟨v, hv1, hv2⟩ := h.ck
  exact ⟨Nat.lt_of_lt_of_le h.lk hb.size, Nat.lt_of_lt_of_le h.lx hb.size, h.f.below hB hb, h.ps.below hB hb, ⟨v, (hb.cell (p := ⟨bk, 0, none⟩) (Nat.lt_of_lt_of_le h.lk hB)).trans hv1, hv2.below hB hb⟩, (hb.cell (p := ⟨bx, 0, none⟩) (Nat.lt_of_lt_of_le h.lx hB)).trans h.cx⟩

theorem kinds_lt {x : Fld} (hv : validB x = true) : ∀ l, ∀ k ∈ kindsOf x l, k < 4096 := by
  have hlen : x.ps.length ≤ 12 := (valid_bounds hv).2.2.2.2.2.2.1
  have key : ∀ (l : List (Int × Int)) (acc : List Nat), (∀ k ∈ acc, k < 4096) → ∀ k ∈ l.foldl (fun l q => if atM x q ∈ l then l else l ++ [atM x q]) acc, k < 4096 := by
    intro l
    induction l with
    | nil => exact fun acc h => h
    | cons q l ih =>
      intro acc h
      refine ih _ ?_
      dsimp only
      split
      · exact h
      · intro k hk
        rcases List.mem_append.1 hk with hk | hk
        · exact h k hk
        · simp at hk; subst hk
          exact Nat.lt_of_lt_of_le (maskN_lt _ _) (Nat.pow_le_pow_right (by omega) hlen)
  exact fun l => key l [] (by simp)

set_option maxHeartbeats 1000000 in
theorem list1_calls (bk bx bf : Nat) (a : Option Addr) (cap : Nat) (x : Fld) (s : Nat) (w : World) (hv : validB x = true) (hs : s < 4096) (um mb : Nat) (hL : ListC w bk bx bf a cap x um mb) :
    Calls Try.prog 54 #[.int .u64 (s : Int), .pointer (some ⟨bk, 0, none⟩), .pointer (some ⟨bx, 0, none⟩)] w fun e w' => e = .returned (.bool (listB x s)) ∧ Below w.heap.size w w' := by
  obtain ⟨v, hv1, hv2⟩ := hL.ck
  obtain ⟨ak, capk, rfl, _, hx⟩ := hv2
  have lk := hL.lk
  have hcall : Calls Try.prog 55 #[.slice ak (kindsOf x (placesL x)).length capk, .func (.func 56) #[] #[.pointer (some ⟨bx, 0, none⟩), .pointer (some ⟨w.heap.size, 0, none⟩)]] (w.alloc (.cells #[.int .u64 (s : Int)] 61)) fun e w' => e = .returned (.bool ((kindsOf x (placesL x)).any fun k => !servesB x (k &&& s))) ∧ Below (w.alloc (.cells #[.int .u64 (s : Int)] 61)).heap.size (w.alloc (.cells #[.int .u64 (s : Int)] 61)) w' := by
    have hL1 := hL.below (Nat.le_refl _) (Up.alloc (.cells #[.int .u64 (s : Int)] 61) (Up.refl w))
    obtain ⟨v', hv1', hv2'⟩ := hL1.ck
    have he : v' = .slice ak (kindsOf x (placesL x)).length capk := by
      have h1 := ((Up.alloc (.cells #[.int .u64 (s : Int)] 61) (Up.refl w)).cell (p := ⟨bk, 0, none⟩) lk).trans hv1
      rw [hv1'] at h1; cases h1; rfl
    subst he
    refine containsFuncSet ak capk _ _ _ (fun k => !servesB x (k &&& s)) (Below (w.alloc (.cells #[.int .u64 (s : Int)] 61)).heap.size (w.alloc (.cells #[.int .u64 (s : Int)] 61))) _ list11_enters (fun W h => hv2'.below (Nat.le_refl _) h) (Below.refl _ _) (fun k hk W hW => ?_)
    have hL2 := hL1.below (Nat.le_refl _) hW
    refine (list11_calls bf bx w.heap.size a cap x k s W hv (kinds_lt hv _ k hk) hs um mb hL2.f hL2.ps hL2.cx ?_).mono fun e w' ⟨he, hb⟩ => ⟨he, hW.trans (hb.mono hW.size)⟩
    rw [hW.cell (p := ⟨w.heap.size, 0, none⟩) (by simp)]
    exact (Boxed.new w _ _).cell
  have HC := Lib.hid hcall; clear hcall hx
  have hdef : listB x s = !((kindsOf x (placesL x)).any fun k => !servesB x (k &&& s)) := rfl
  have HD := Lib.hid hdef; clear hdef
  clear hL
  go_enter Try.func54, Try.ntmps54
  go_wp2_with fail
  refine HC.out.mono ?_
  rintro e w1 ⟨rfl, hb⟩
  generalize ((kindsOf x (placesL x)).any fun k => !servesB x (k &&& s)) = bb at *
  go_wp2
  go_ret
  exact ⟨ret_bool HD.out.symm, (Up.alloc _ (Up.refl w)).trans (hb.mono (by simp))⟩

/-- FieldW, and the plates beside it. -/
def FieldP (w : World) (bf : Nat) (a : Option Addr) (cap : Nat) (x : Fld) : Prop := FieldW w bf a cap x ∧ SlW 6 skyRow w (.slice a x.ps.length cap) x.ps
theorem FieldP.below {w w' : World} {bf : Nat} {a : Option Addr} {cap : Nat} {x : Fld} (h : FieldP w bf a cap x) {B : Nat} (hB : w.heap.size ≤ B) (hb : Below B w w') : FieldP w' bf a cap x := ⟨h.1.below hB hb, h.2.below hB hb⟩

set_option maxHeartbeats 1000000 in
theorem isList_calls (bf : Nat) (a : Option Addr) (cap : Nat) (x : Fld) (w : World) (hv : validB x = true) (hF : FieldP w bf a cap x) :
    Calls Try.prog 30 #[.pointer (some ⟨bf, 0, none⟩)] w fun e w' => ∃ bk bx mb, e = .returned (.func (.func 54) #[] #[.pointer (some ⟨bk, 0, none⟩), .pointer (some ⟨bx, 0, none⟩)]) ∧ ListC w' bk bx bf a cap x (usefulM x) mb ∧ Below w.heap.size w w' := by
  obtain ⟨mb, m, hf, hm, hq⟩ := hF.1
  have hK : Hid (Calls Try.prog 39 #[.pointer (some ⟨bf, 0, none⟩)] (w.alloc (.cells #[.pointer (some ⟨bf, 0, none⟩)] 58)) fun e w' => ∃ v, e = .returned v ∧ SlW 1 setRow w' v (kindsOf x (placesL x)) ∧ Below (w.alloc (.cells #[.pointer (some ⟨bf, 0, none⟩)] 58)).heap.size (w.alloc (.cells #[.pointer (some ⟨bf, 0, none⟩)] 58)) w') :=
    kinds_calls bf a cap x _ hv (hF.1.below (Nat.le_refl _) (Up.alloc _ (Up.refl _)))
  have HP := Lib.hid hF.2; have HF := Lib.hid hf
  clear hF hf hm hq
  go_enter Try.func30, Try.ntmps30
  go_wp2_with fail
  refine hK.out.mono ?_
  rintro e w1 ⟨v, rfl, hsl, hb⟩
  obtain ⟨ak, capk, rfl, hle, hx⟩ := hsl
  have hsl2 : SlW 1 setRow w1 (.slice ak (kindsOf x (placesL x)).length capk) (kindsOf x (placesL x)) := ⟨ak, capk, rfl, hle, hx⟩
  have HS := Lib.hid hsl2; clear hsl2 hx
  have hupw1 : Below w.heap.size w w1 := (Up.alloc _ (Up.refl w)).trans (hb.mono (by simp))
  have hbs := hb.size
  simp only [World.size_alloc] at hbs
  have hlw : w.heap.size < w1.heap.size := by omega
  go_wp2
  go_ret
  have hup2 : Below w.heap.size w (w1.alloc (.cells #[.slice ak (kindsOf x (placesL x)).length capk] 80)) := hupw1.alloc hupw1.size _
  refine ⟨w1.heap.size, w.heap.size, mb, rfl, ⟨by simp, by simp; omega, HF.out.below (Nat.le_refl _) hup2, HP.out.below (Nat.le_refl _) hup2, ⟨_, (Boxed.new w1 _ _).cell, HS.out.below (Nat.le_refl _) (Up.alloc _ (Up.refl _))⟩, ?_⟩, hup2⟩
  rw [(Up.alloc (.cells #[.slice ak (kindsOf x (placesL x)).length capk] 80) (Up.refl w1)).cell (p := ⟨w.heap.size, 0, none⟩) hlw, hb.cell (p := ⟨w.heap.size, 0, none⟩) (by simp)]
  exact (Boxed.new w _ _).cell
end Go.Proofs.Ytlfemkelnllmnaa
