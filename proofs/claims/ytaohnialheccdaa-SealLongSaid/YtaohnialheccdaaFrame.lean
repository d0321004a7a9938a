/- Plain facts about frames: what a frame is, and what is opened. No program in sight. -/
import Derived.Test.YtaohnialheccdaaCrc
import Derived.Test.YtaohnialheccdaaLe
namespace Go.Proofs.Ytaohnialheccdaa.Frame
open Le (le of)
/-- What stands ahead of the sum. -/
def head (kind n : Int) : List Int := le 2 53021 ++ le 2 kind ++ le 4 n
def frame (kind : Int) (b : List Int) : List Int := head kind b.length ++ le 4 (Crc.sum (head kind b.length ++ b)) ++ b
def mOf (xs : List Int) : Int := of (xs.take 2)
def kOf (xs : List Int) : Int := of ((xs.drop 2).take 2)
def nOf (xs : List Int) : Int := of ((xs.drop 4).take 4)
def sOf (xs : List Int) : Int := of ((xs.drop 8).take 4)
def loadOf (xs : List Int) : List Int := (xs.drop 12).take (nOf xs).toNat
/-- Is there a frame's head, and room for what it bears? -/
def form (xs : List Int) : Prop := 12 ≤ xs.length ∧ mOf xs = 53021 ∧ nOf xs ≤ 65536 ∧ nOf xs ≤ xs.length - 12
def good (xs : List Int) : Prop := Crc.sum (xs.take 8 ++ loadOf xs) = sOf xs
instance (xs : List Int) : Decidable (form xs) := by unfold form; infer_instance
instance (xs : List Int) : Decidable (good xs) := by unfold good; infer_instance
theorem head_length (kind n : Int) : (head kind n).length = 8 := by simp [head, Le.le_length]
theorem head_u8 (kind n : Int) : Le.U8s (head kind n) := by
  intro x hx
  simp only [head, List.mem_append] at hx
  rcases hx with (h | h) | h
  · exact Le.le_u8 _ _ x h
  · exact Le.le_u8 _ _ x h
  · exact Le.le_u8 _ _ x h
theorem frame_length (kind : Int) (b : List Int) : (frame kind b).length = 12 + b.length := by simp [frame, head_length, Le.le_length]; omega
theorem frame_u8 (kind : Int) (b : List Int) (h : Le.U8s b) : Le.U8s (frame kind b) := by
  intro x hx
  simp only [frame, List.mem_append] at hx
  rcases hx with (h1 | h1) | h1
  · exact head_u8 _ _ x h1
  · exact Le.le_u8 _ _ x h1
  · exact h x h1
theorem nOf_nonneg (xs : List Int) (h : Le.U8s xs) : 0 ≤ nOf xs := (Le.of_bound _ fun x hx => h x (List.mem_of_mem_drop (List.mem_of_mem_take hx))).1
theorem loadOf_length (xs : List Int) (h : Le.U8s xs) (hf : form xs) : ((loadOf xs).length : Int) = nOf xs := by
  have := nOf_nonneg xs h
  unfold form at hf
  simp only [loadOf, List.length_take, List.length_drop]
  omega
end Go.Proofs.Ytaohnialheccdaa.Frame
