/- Plain facts about the sum CRC-32C, bit by bit: no program in sight. -/
import Derived.WalkKit
namespace Go.Proofs.Ytipmkddcdnbihaa.Crc

/-- One bit's step. -/
def bit (s : Int) : Int := if s % 2 = 1 then Go.bits .xor .u32 (s / 2) 2197175160 else s / 2
/-- So many bits' steps. -/
def bitsN : Nat → Int → Int
  | 0, s => s
  | n + 1, s => bitsN n (bit s)
/-- One byte's step. -/
def byte (s c : Int) : Int := bitsN 8 (Go.bits .xor .u32 s c)
/-- All bytes' steps. -/
def run (s : Int) (l : List Int) : Int := l.foldl byte s
/-- The sum of bytes behind others. -/
def sumOn (s : Int) (l : List Int) : Int := 4294967295 - run (4294967295 - s) l
def sum (l : List Int) : Int := sumOn 0 l

def U32 (s : Int) : Prop := 0 ≤ s ∧ s < 4294967296
theorem xor_u32 (a b : Int) : U32 (Go.bits .xor .u32 a b) := by
  have h := (BitVec.ofInt 32 a ^^^ BitVec.ofInt 32 b).isLt
  unfold U32 Go.bits
  simp [IntKind.wrap, IntKind.bits, IntKind.signed]
  omega
theorem bit_u32 {s : Int} (h : U32 s) : U32 (bit s) := by
  unfold bit
  split
  · exact xor_u32 _ _
  · unfold U32 at *; omega
theorem bitsN_u32 (n : Nat) : ∀ {s : Int}, U32 s → U32 (bitsN n s) := by
  induction n with
  | zero => intro s h; exact h
  | succ n ih => intro s h; exact ih (bit_u32 h)
theorem byte_u32 (s c : Int) : U32 (byte s c) := bitsN_u32 8 (xor_u32 _ _)
theorem run_u32 (l : List Int) : ∀ {s : Int}, U32 s → U32 (run s l) := by
  induction l with
  | nil => intro s h; exact h
  | cons c l ih => intro s _; exact ih (byte_u32 s c)
theorem sumOn_u32 {s : Int} (h : U32 s) (l : List Int) : U32 (sumOn s l) := by
  have := run_u32 l (s := 4294967295 - s) (by unfold U32 at *; omega)
  unfold sumOn U32 at *
  omega
theorem sum_u32 (l : List Int) : U32 (sum l) := sumOn_u32 (by unfold U32; omega) l
theorem run_append (s : Int) (a b : List Int) : run s (a ++ b) = run (run s a) b := by simp [run]
theorem sumOn_append (s : Int) (a b : List Int) : sumOn (sumOn s a) b = sumOn s (a ++ b) := by
  unfold sumOn
  rw [run_append]
  congr 2
  omega
theorem run_snoc (s : Int) (l : List Int) (c : Int) : run s (l ++ [c]) = byte (run s l) c := by simp [run]
theorem bitsN_snoc (n : Nat) : ∀ s, bitsN (n + 1) s = bit (bitsN n s) := by
  induction n with
  | zero => intro s; rfl
  | succ n ih => intro s; show bitsN (n + 1) (bit s) = _; rw [ih]; rfl
theorem not_u32 {s : Int} (h : U32 s) : Go.bits .xor .u32 IntKind.u32.max s = 4294967295 - s := by
  obtain ⟨n, rfl⟩ := Int.eq_ofNat_of_zero_le h.1
  have hn : n < 4294967296 := by have := h.2; omega
  have e : IntKind.u32.max = ((4294967295 : Nat) : Int) := by decide
  rw [e, u32_xor_nat _ _ (by omega) hn]
  have : (4294967295 ^^^ n : Nat) = 4294967295 - n := by
    have h3 : BitVec.allOnes 32 ^^^ BitVec.ofNat 32 n = ~~~ BitVec.ofNat 32 n := BitVec.allOnes_xor
    have h4 := congrArg BitVec.toNat h3
    rw [BitVec.toNat_xor, BitVec.toNat_not, BitVec.toNat_allOnes, BitVec.toNat_ofNat, Nat.mod_eq_of_lt (by simpa using hn)] at h4
    simpa using h4
  rw [this]; omega
theorem bit_odd {s : Int} (h : s % 2 = 1) : bit s = Go.bits .xor .u32 (s / 2) 2197175160 := if_pos h
theorem bit_even {s : Int} (h : ¬ s % 2 = 1) : bit s = s / 2 := if_neg h
theorem and_one {s : Int} (h : U32 s) : Go.bits .and .u32 s 1 = s % 2 := by
  rw [u32_and _ _ h.1 h.2 (by omega) (by omega)]
  show ((s.toNat &&& 1 : Nat) : Int) = _
  rw [nat_mask1]
  have := h.1
  omega
end Go.Proofs.Ytipmkddcdnbihaa.Crc
