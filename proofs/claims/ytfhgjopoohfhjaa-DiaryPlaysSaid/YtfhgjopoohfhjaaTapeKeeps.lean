import Derived.Test.YtfhgjopoohfhjaaTape
namespace Go.Proofs.Ytfhgjopoohfhjaa.TapeKeepsW
open Go.RowKit Base Step Tape
open TapeP (kept crash turn)

theorem k2 : kept 2 3 = 2 := by decide
theorem crash_head (a b : List Int) (keep bits : Int) : (crash (a ++ b) a.length keep bits).take a.length = a := by
  have hl : (a ++ b).length - a.length = b.length := by simp
  unfold crash
  rw [hl]
  split
  · rename_i h
    have hk := TapeP.kept_le keep b.length
    unfold turn
    rw [List.take_set_of_le (by rw [List.length_take, List.length_append]; omega), List.take_take, Nat.min_eq_left (by omega)]
    simp
  · rw [List.take_take, Nat.min_eq_left (by omega)]
    simp

end Go.Proofs.Ytfhgjopoohfhjaa.TapeKeepsW
