/- Plain facts about frames: what a frame is, and what is opened. No program in sight. -/
import Derived.Test.YtipmkddcdnbihaaCrc
import Derived.Test.YtipmkddcdnbihaaLe
namespace Go.Proofs.Ytipmkddcdnbihaa.Frm
open Le (le of)
/-- What stands ahead of the sum. -/
def head (kind n : Int) : List Int := le 2 53021 ++ le 2 kind ++ le 4 n
def frame (kind : Int) (b : List Int) : List Int := head kind b.length ++ le 4 (Crc.sum (head kind b.length ++ b)) ++ b
def mOf (xs : List Int) : Int := of (xs.take 2)
def kOf (xs : List Int) : Int := of ((xs.drop 2).take 2)
def nOf (xs : List Int) : Int := of ((xs.drop 4).take 4)
def sOf (xs : List Int) : Int := of ((xs.drop 8).take 4)
def loadOf (xs : List Int) : List Int := (xs.drop 12).take (nOf xs).toNat
/-- Is there a frame's head, and room for what it bears? -/
def form (xs : List Int) : Prop := 12 ≤ xs.length ∧ mOf xs = 53021 ∧ nOf xs ≤ 65536 ∧ nOf xs ≤ xs.length - 12
def good (xs : List Int) : Prop := Crc.sum (xs.take 8 ++ loadOf xs) = sOf xs
instance (xs : List Int) : Decidable (form xs) := by unfold form; infer_instance
instance (xs : List Int) : Decidable (good xs) := by unfold good; infer_instance
theorem head_length (kind n : Int) : (head kind n).length = 8 := by simp [head, Le.le_length]
theorem head_u8 (kind n : Int) : Le.U8s (head kind n) := by
  intro x hx
  simp only [head, List.mem_append] at hx
  rcases hx with (h | h) | h
  · exact Le.le_u8 _ _ x h
  · exact Le.le_u8 _ _ x h
  · exact Le.le_u8 _ _ x h
theorem frame_length (kind : Int) (b : List Int) : (frame kind b).length = 12 + b.length := by simp [frame, head_length, Le.le_length]; omega
theorem frame_u8 (kind : Int) (b : List Int) (h : Le.U8s b) : Le.U8s (frame kind b) := by
  intro x hx
  simp only [frame, List.mem_append] at hx
  rcases hx with (h1 | h1) | h1
  · exact head_u8 _ _ x h1
  · exact Le.le_u8 _ _ x h1
  · exact h x h1
theorem nOf_nonneg (xs : List Int) (h : Le.U8s xs) : 0 ≤ nOf xs := (Le.of_bound _ fun x hx => h x (List.mem_of_mem_drop (List.mem_of_mem_take hx))).1
theorem loadOf_length (xs : List Int) (h : Le.U8s xs) (hf : form xs) : ((loadOf xs).length : Int) = nOf xs := by
  have := nOf_nonneg xs h
  unfold form at hf
  simp only [loadOf, List.length_take, List.length_drop]
  omega
theorem take_app {a b : List Int} {n : Nat} (h : a.length = n) : (a ++ b).take n = a := by subst h; simp
theorem drop_app {a b : List Int} {n : Nat} (h : a.length = n) : (a ++ b).drop n = b := by subst h; simp
/-- What is framed is opened, with anything behind it. -/
theorem open_frame (kind : Int) (b more : List Int) (hk0 : 0 ≤ kind) (hk1 : kind < 65536) (_ : Le.U8s b) (hl : b.length ≤ 65536) :
    form (frame kind b ++ more) ∧ good (frame kind b ++ more) ∧ kOf (frame kind b ++ more) = kind ∧ nOf (frame kind b ++ more) = b.length ∧ loadOf (frame kind b ++ more) = b := by
  have hs := Crc.sum_u32 (head kind b.length ++ b)
  have e : frame kind b ++ more = le 2 53021 ++ (le 2 kind ++ (le 4 b.length ++ (le 4 (Crc.sum (head kind b.length ++ b)) ++ (b ++ more)))) := by simp [frame, head]
  have e1 : mOf (frame kind b ++ more) = 53021 := by rw [e, mOf, take_app (Le.le_length _ _)]; rfl
  have d2 : (frame kind b ++ more).drop 2 = le 2 kind ++ (le 4 b.length ++ (le 4 (Crc.sum (head kind b.length ++ b)) ++ (b ++ more))) := by rw [e, drop_app (Le.le_length _ _)]
  have d4 : (frame kind b ++ more).drop 4 = le 4 b.length ++ (le 4 (Crc.sum (head kind b.length ++ b)) ++ (b ++ more)) := by
    rw [show (4 : Nat) = 2 + 2 from rfl, ← List.drop_drop, d2, drop_app (Le.le_length _ _)]
  have d8 : (frame kind b ++ more).drop 8 = le 4 (Crc.sum (head kind b.length ++ b)) ++ (b ++ more) := by
    rw [show (8 : Nat) = 4 + 4 from rfl, ← List.drop_drop, d4, drop_app (Le.le_length _ _)]
  have d12 : (frame kind b ++ more).drop 12 = b ++ more := by
    rw [show (12 : Nat) = 8 + 4 from rfl, ← List.drop_drop, d8, drop_app (Le.le_length _ _)]
  have e2 : kOf (frame kind b ++ more) = kind := by rw [kOf, d2, take_app (Le.le_length _ _), Le.of_le_lt _ _ hk0 hk1]
  have e3 : nOf (frame kind b ++ more) = b.length := by rw [nOf, d4, take_app (Le.le_length _ _), Le.of_le_lt _ _ (by omega) (by omega)]
  have e4 : sOf (frame kind b ++ more) = Crc.sum (head kind b.length ++ b) := by rw [sOf, d8, take_app (Le.le_length _ _), Le.of_le_lt _ _ hs.1 hs.2]
  have e5 : loadOf (frame kind b ++ more) = b := by rw [loadOf, e3, d12]; exact take_app (by simp)
  have e6 : (frame kind b ++ more).take 8 = head kind b.length := by
    have : frame kind b ++ more = head kind b.length ++ (le 4 (Crc.sum (head kind b.length ++ b)) ++ (b ++ more)) := by simp [frame]
    rw [this]; exact take_app (head_length _ _)
  refine ⟨⟨by simp [frame_length]; omega, e1, by rw [e3]; omega, by rw [e3]; simp [frame_length]; omega⟩, ?_, e2, e3, e5⟩
  rw [good, e5, e6, e4]
/-- The frames that bytes begin with: where each stands, its kind, and what it bears. -/
def scan : Nat → Int → List Int → List (Int × Int × List Int)
  | 0, _, _ => []
  | f + 1, p, xs => if form xs ∧ good xs then (p, kOf xs, loadOf xs) :: scan f (p + 12 + nOf xs) (xs.drop (12 + (nOf xs).toNat)) else []
/-- How many bytes these are. -/
def used : Nat → Int → List Int → Int
  | 0, p, _ => p
  | f + 1, p, xs => if form xs ∧ good xs then used f (p + 12 + nOf xs) (xs.drop (12 + (nOf xs).toNat)) else p
theorem scan_stop {f : Nat} {p : Int} {xs : List Int} (h : ¬ (form xs ∧ good xs)) : scan f p xs = [] ∧ used f p xs = p := by
  cases f with
  | zero => exact ⟨rfl, rfl⟩
  | succ f => exact ⟨if_neg h, if_neg h⟩
theorem scan_go {f : Nat} {p : Int} {xs : List Int} (h : form xs ∧ good xs) (hl : xs.length ≤ f) :
    ∃ g, f = g + 1 ∧ scan f p xs = (p, kOf xs, loadOf xs) :: scan g (p + 12 + nOf xs) (xs.drop (12 + (nOf xs).toNat)) ∧ used f p xs = used g (p + 12 + nOf xs) (xs.drop (12 + (nOf xs).toNat)) ∧ (xs.drop (12 + (nOf xs).toNat)).length ≤ g := by
  cases f with
  | zero => have := h.1.1; omega
  | succ f => exact ⟨f, rfl, if_pos h, if_pos h, by simp; omega⟩
end Go.Proofs.Ytipmkddcdnbihaa.Frm
