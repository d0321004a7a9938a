/- Plain facts: each record takes twenty bytes at least. No program in sight. -/
import Derived.Test.YtfhgjopoohfhjaaDiaryP
namespace Go.Proofs.Ytfhgjopoohfhjaa.DiaryPlaysP
open Frm DiaryP
/-- Frames that stand one behind the other from p on; b is no less than where they end. -/
def Chain : Int → List It → Int → Prop
  | p, [], b => p ≤ b
  | p, it :: l, b => it.1 = p ∧ Chain (p + 12 + it.2.2.length) l b
theorem scan_chain : ∀ (f : Nat) (p : Int) (xs : List Int), Le.U8s xs → Chain p (scan f p xs) (used f p xs)
  | 0, p, xs, _ => Int.le_refl p
  | f + 1, p, xs, hu => by
    unfold scan used
    split
    · rename_i hf
      refine ⟨rfl, ?_⟩
      show Chain (p + 12 + ((loadOf xs).length : Nat)) _ _
      rw [loadOf_length xs hu hf.1]
      exact scan_chain f _ _ fun x hx => hu x (List.mem_of_mem_drop hx)
    · exact Int.le_refl p
theorem recs_room : ∀ (l : List It) (j : Nat) (p u : Int), Chain p l u → p + 20 * ((recs l j u).1.length : Nat) ≤ (recs l j u).2
  | [], _, p, u, h => by
    have : p ≤ u := h
    simp only [recs, List.length_nil]
    omega
  | it :: l, j, p, u, h => by
    obtain ⟨h1, h2⟩ := h
    unfold recs
    split
    · rename_i hk
      have h3 := recs_room l (j + 1) _ u h2
      have h4 := hk.2.1
      simp only [List.length_cons]
      omega
    · simp only [List.length_nil]
      omega
theorem records_room {xs : List Int} (hu : Le.U8s xs) : 20 * ((records xs).1.length : Int) ≤ (records xs).2 := by
  have := recs_room _ 0 _ _ (scan_chain xs.length 0 xs hu)
  unfold records
  omega
end Go.Proofs.Ytfhgjopoohfhjaa.DiaryPlaysP
