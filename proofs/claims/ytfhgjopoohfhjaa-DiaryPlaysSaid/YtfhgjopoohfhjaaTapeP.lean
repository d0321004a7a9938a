/- Plain facts about tapes: no program in sight. -/
import Derived.WalkKit
namespace Go.Proofs.Ytfhgjopoohfhjaa.TapeP
/-- The last byte's bits turned. -/
def turn (xs : List Int) (bits : Int) : List Int := xs.set (xs.length - 1) (Go.bits .xor .u8 (xs.getD (xs.length - 1) 0) bits)
theorem turn_length (xs : List Int) (bits : Int) : (turn xs bits).length = xs.length := by simp [turn]
/-- How many loose bytes a crash keeps. -/
def kept (keep : Int) (loose : Nat) : Nat := (min (max keep 0) (loose : Int)).toNat
theorem kept_le (keep : Int) (loose : Nat) : kept keep loose ≤ loose := by unfold kept; omega
/-- What is there behind a crash. -/
def crash (xs : List Int) (safe : Nat) (keep bits : Int) : List Int :=
  if 0 < kept keep (xs.length - safe) then turn (xs.take (safe + kept keep (xs.length - safe))) bits else xs.take (safe + kept keep (xs.length - safe))
theorem crash_length (xs : List Int) (safe : Nat) (keep bits : Int) (h : safe ≤ xs.length) : (crash xs safe keep bits).length = safe + kept keep (xs.length - safe) := by
  have := kept_le keep (xs.length - safe)
  unfold crash
  split
  · rw [turn_length, List.length_take, Nat.min_eq_left (by omega)]
  · rw [List.length_take, Nat.min_eq_left (by omega)]
theorem bits_u8 (a b : Int) : 0 ≤ Go.bits .xor .u8 a b ∧ Go.bits .xor .u8 a b < 256 := by
  have h := (BitVec.ofInt 8 a ^^^ BitVec.ofInt 8 b).isLt
  unfold Go.bits
  simp [IntKind.wrap, IntKind.bits, IntKind.signed]
  omega
end Go.Proofs.Ytfhgjopoohfhjaa.TapeP
