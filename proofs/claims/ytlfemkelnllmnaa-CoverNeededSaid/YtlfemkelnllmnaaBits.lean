/- Sets of plates as numbers: has, size. -/
import Derived.Test.YtlfemkelnllmnaaLib
set_option linter.all false
set_option linter.unusedVariables false
set_option linter.unusedSimpArgs false
namespace Go.Proofs.Ytlfemkelnllmnaa
open Go.RowKit

theorem has_bit (s n : Nat) (hs : s < 4096) : (bits BinOp.and IntKind.u64 ((s : Int) / 2 ^ n) 1 == 1) = s.testBit n := by
  have h1 : ((s : Int) / 2 ^ n) = ((s / 2 ^ n : Nat) : Int) := by norm_cast
  have h2 : s / 2 ^ n < 18446744073709551616 := Nat.lt_of_le_of_lt (Nat.div_le_self _ _) (by omega)
  rw [h1, show (1 : Int) = ((1 : Nat) : Int) from rfl, u64_and_nat _ _ h2 (by omega), Nat.testBit_eq_decide_div_mod_eq, Nat.and_one_is_mod, Bool.eq_iff_iff]
  simp only [beq_iff_eq, decide_eq_true_eq]
  omega

set_option maxHeartbeats 1000000 in
theorem has_calls (s n : Nat) (w : World) (hs : s < 4096) (_hn : n < 12) :
    Calls Try.prog 38 #[.int .u64 (s : Int), .int .i64 (n : Int)] w fun e w' => e = .returned (.bool (s.testBit n)) ∧ w = w' := by
  have h := has_bit s n hs
  have H := Lib.hid h; clear h
  go_enter Try.func38, Try.ntmps38
  go_wp2
  go_ret
  exact ⟨ret_bool H.out, rfl⟩

/-- How many are in a set. -/
def sizeN (s : Nat) : Nat := (List.range 12).countP s.testBit

def pop1 (s : Nat) : Nat := (s / 2) % 2 + s % 2 + 4 * ((s / 8) % 2 + (s / 4) % 2) + 16 * ((s / 32) % 2 + (s / 16) % 2) + 64 * ((s / 128) % 2 + (s / 64) % 2) + 256 * ((s / 512) % 2 + (s / 256) % 2) + 1024 * ((s / 2048) % 2 + (s / 1024) % 2)
def pop2 (s : Nat) : Nat := s % 4 + (s / 4) % 4 + 16 * ((s / 16) % 4 + (s / 64) % 4) + 256 * ((s / 256) % 4 + (s / 1024) % 4)
def pop3 (s : Nat) : Nat := s % 16 + (s / 16) % 16 + 256 * ((s / 256) % 16)

def pop4 (s : Nat) : Nat := s + s / 256

theorem all_4096 (p : Nat → Prop) (h : ∀ a b : Fin 64, p (64 * a.val + b.val)) : ∀ s : Nat, s < 4096 → p s := fun s hs => by
  have := h ⟨s / 64, by omega⟩ ⟨s % 64, by omega⟩
  dsimp only at this
  rwa [Nat.div_add_mod] at this

theorem pop_1 : ∀ s : Nat, s < 4096 → IntKind.u64.wrap (bits BinOp.and IntKind.u64 ((s : Int) / 2) 6148914691236517205 + bits BinOp.and IntKind.u64 (s : Int) 6148914691236517205) = (pop1 s : Int) := by
  refine all_4096 _ ?_
  decide +kernel
theorem pop_2 : ∀ s : Nat, s < 4096 → IntKind.u64.wrap (bits BinOp.and IntKind.u64 (((pop1 s : Nat) : Int) / 4) 3689348814741910323 + bits BinOp.and IntKind.u64 ((pop1 s : Nat) : Int) 3689348814741910323) = (pop2 (pop1 s) : Int) := by
  refine all_4096 _ ?_
  decide +kernel
theorem pop_3 : ∀ s : Nat, s < 4096 → bits BinOp.and IntKind.u64 (IntKind.u64.wrap (((pop2 (pop1 s) : Nat) : Int) / 16 + (pop2 (pop1 s) : Int))) 1085102592571150095 = (pop3 (pop2 (pop1 s)) : Int) := by
  refine all_4096 _ ?_
  decide +kernel
theorem pop_4 : ∀ s : Nat, s < 4096 → IntKind.u64.wrap (((pop3 (pop2 (pop1 s)) : Nat) : Int) + ((pop3 (pop2 (pop1 s)) : Nat) : Int) / 256) = (pop4 (pop3 (pop2 (pop1 s))) : Int) := by
  refine all_4096 _ ?_
  decide +kernel
theorem pop_5 : ∀ s : Nat, s < 4096 → bits BinOp.and IntKind.i64 (wrap64 (IntKind.u64.wrap (IntKind.u64.wrap (((pop4 (pop3 (pop2 (pop1 s))) : Nat) : Int) + ((pop4 (pop3 (pop2 (pop1 s))) : Nat) : Int) / 65536) + IntKind.u64.wrap (((pop4 (pop3 (pop2 (pop1 s))) : Nat) : Int) + ((pop4 (pop3 (pop2 (pop1 s))) : Nat) : Int) / 65536) / 4294967296))) 127 = (sizeN s : Int) := by
  refine all_4096 _ ?_
  decide +kernel

set_option maxHeartbeats 1000000 in
theorem ones_calls (s : Nat) (w : World) (hs : s < 4096) :
    Calls Try.prog 72 #[.int .u64 (s : Int)] w fun e w' => e = .returned (.int .i64 (sizeN s)) ∧ w = w' := by
  have h1 := pop_1 s hs
  have h2 := pop_2 s hs
  have h3 := pop_3 s hs
  have h4 := pop_4 s hs
  have h5 := pop_5 s hs
  generalize pop1 s = s1 at *
  generalize pop2 s1 = s2 at *
  generalize pop3 s2 = s3 at *
  generalize pop4 s3 = s4 at *
  go_enter Try.func72, Try.ntmps72
  go_wp2
  go_ret
  exact ⟨rfl, rfl⟩

set_option maxHeartbeats 1000000 in
theorem size_calls (s : Nat) (w : World) (hs : s < 4096) :
    Calls Try.prog 31 #[.int .u64 (s : Int)] w fun e w' => e = .returned (.int .i64 (sizeN s)) ∧ w = w' := by
  have h : Calls Try.prog 57 #[.int .u64 (s : Int)] w fun e w' => e = .returned (.int .i64 (sizeN s)) ∧ w = w' := by
    go_enter Try.func57, Try.ntmps57
    go_wp2_with fail
    refine (ones_calls s w hs).mono ?_
    rintro e _ ⟨rfl, rfl⟩
    go_wp2
    go_ret
    exact ⟨rfl, rfl⟩
  go_enter Try.func31, Try.ntmps31
  go_wp2_with fail
  refine h.mono ?_
  rintro e _ ⟨rfl, rfl⟩
  go_wp2
  go_ret
  exact ⟨rfl, rfl⟩
end Go.Proofs.Ytlfemkelnllmnaa
