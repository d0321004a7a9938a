/- Plain facts about records among frames: no program in sight. -/
import Derived.Test.YtipmkddcdnbihaaFrame
namespace Go.Proofs.Ytipmkddcdnbihaa.DiaryP
open Frm
abbrev It := Int × Int × List Int
/-- Does a frame bear the record of number j + 1? -/
def okAt (j : Nat) (it : It) : Prop := it.2.1 = 2 ∧ 8 ≤ it.2.2.length ∧ it.2.2.length ≤ 60008 ∧ Le.of (it.2.2.take 8) = (j : Int) + 1
instance (j : Nat) (it : It) : Decidable (okAt j it) := by unfold okAt; infer_instance
/-- The records that frames begin with, from number j + 1 on, and where they end. -/
def recs : List It → Nat → Int → List (List Int) × Int
  | [], _, u => ([], u)
  | it :: l, j, u => if okAt j it then (it.2.2.drop 8 :: (recs l (j + 1) u).1, (recs l (j + 1) u).2) else ([], it.1)
def outs (l : List It) : List (List Int) := l.map fun it => it.2.2.drop 8
theorem recs_go {l : List It} {j : Nat} {u : Int} {it : It} (h : l[j]? = some it) (hk : okAt j it) : recs (l.drop j) j u = (it.2.2.drop 8 :: (recs (l.drop (j + 1)) (j + 1) u).1, (recs (l.drop (j + 1)) (j + 1) u).2) := by
  have hj := List.getElem?_eq_some_iff.1 h
  rw [← List.getElem_cons_drop hj.1, hj.2]
  simp only [recs]
  rw [if_pos hk]
theorem recs_stop {l : List It} {j : Nat} {u : Int} {it : It} (h : l[j]? = some it) (hk : ¬ okAt j it) : recs (l.drop j) j u = ([], it.1) := by
  have hj := List.getElem?_eq_some_iff.1 h
  rw [← List.getElem_cons_drop hj.1, hj.2]
  simp only [recs]
  rw [if_neg hk]
theorem recs_end {l : List It} {u : Int} : recs (l.drop l.length) l.length u = ([], u) := by rw [List.drop_length]; rfl
theorem outs_next {l : List It} {j : Nat} {it : It} (h : l[j]? = some it) : outs (l.take (j + 1)) = outs (l.take j) ++ [it.2.2.drop 8] := by
  have hj := List.getElem?_eq_some_iff.1 h
  rw [List.take_succ_eq_append_getElem hj.1, hj.2]
  simp [outs]
theorem scan_count : ∀ (f : Nat) (p : Int) (xs : List Int), (scan f p xs).length ≤ f
  | 0, _, _ => Nat.le_refl _
  | f + 1, p, xs => by
    unfold scan
    split
    · have := scan_count f (p + 12 + nOf xs) (xs.drop (12 + (nOf xs).toNat))
      simp
      omega
    · simp
theorem scan_len : ∀ (f : Nat) (p : Int) (xs : List Int), ∀ it ∈ scan f p xs, it.2.2.length ≤ xs.length
  | 0, _, _, it, h => by cases h
  | f + 1, p, xs, it, h => by
    unfold scan at h
    split at h
    · rcases List.mem_cons.1 h with rfl | h
      · simp only [loadOf, List.length_take, List.length_drop]
        omega
      · have := scan_len f _ _ it h
        simp only [List.length_drop] at this
        omega
    · cases h
/-- The records that bytes begin with. -/
def records (xs : List Int) : List (List Int) × Int := recs (scan xs.length 0 xs) 0 (used xs.length 0 xs)
theorem scan_used : ∀ (f : Nat) (p : Int) (xs : List Int), Le.U8s xs → 0 ≤ p → p ≤ used f p xs ∧ used f p xs ≤ p + xs.length ∧ ∀ it ∈ scan f p xs, p ≤ it.1 ∧ it.1 ≤ p + xs.length
  | 0, p, xs, _, h => ⟨Int.le_refl _, by show p ≤ _; omega, fun it hi => by cases hi⟩
  | f + 1, p, xs, hu, h => by
    unfold used scan
    split
    · rename_i hf
      have h0 := nOf_nonneg xs hu
      have h1 := hf.1.2.2.2
      have h2 := hf.1.1
      obtain ⟨h3, h4, h5⟩ := scan_used f (p + 12 + nOf xs) (xs.drop (12 + (nOf xs).toNat)) (fun x hx => hu x (List.mem_of_mem_drop hx)) (by omega)
      rw [List.length_drop] at h4 h5
      refine ⟨by omega, by omega, fun it hi => ?_⟩
      rcases List.mem_cons.1 hi with rfl | hi
      · exact ⟨Int.le_refl _, by show p ≤ _; omega⟩
      · have := h5 it hi
        omega
    · exact ⟨Int.le_refl _, by omega, fun it hi => by cases hi⟩
theorem recs_used {l : List It} : ∀ {j : Nat} {u b : Int}, 0 ≤ u → u ≤ b → (∀ it ∈ l, 0 ≤ it.1 ∧ it.1 ≤ b) → 0 ≤ (recs l j u).2 ∧ (recs l j u).2 ≤ b := by
  induction l with
  | nil => intro j u b h0 h1 _; exact ⟨h0, h1⟩
  | cons it l ih =>
    intro j u b h0 h1 h
    unfold recs
    split
    · exact ih h0 h1 fun it hi => h it (List.mem_cons_of_mem _ hi)
    · exact h it List.mem_cons_self
theorem records_used {xs : List Int} (hu : Le.U8s xs) : 0 ≤ (records xs).2 ∧ (records xs).2 ≤ xs.length := by
  obtain ⟨h1, h2, h3⟩ := scan_used xs.length 0 xs hu (Int.le_refl 0)
  exact recs_used h1 (by omega) fun it hi => by have := h3 it hi; omega
theorem recs_count {l : List It} : ∀ {j : Nat} {u : Int}, (recs l j u).1.length ≤ l.length := by
  induction l with
  | nil => intro j u; exact Nat.le_refl _
  | cons it l ih =>
    intro j u
    unfold recs
    split
    · have := ih (j := j + 1) (u := u)
      simp
      omega
    · simp
theorem records_count (xs : List Int) : (records xs).1.length ≤ xs.length := Nat.le_trans recs_count (scan_count _ _ _)
theorem recs_len {l : List It} {b : Nat} : ∀ {j : Nat} {u : Int}, (∀ it ∈ l, it.2.2.length ≤ b) → ∀ x ∈ (recs l j u).1, x.length ≤ b := by
  induction l with
  | nil => intro j u _ x hx; cases hx
  | cons it l ih =>
    intro j u h x hx
    unfold recs at hx
    split at hx
    · rcases List.mem_cons.1 hx with rfl | hx
      · have := h it List.mem_cons_self
        rw [List.length_drop]
        omega
      · exact ih (fun it hi => h it (List.mem_cons_of_mem _ hi)) x hx
    · cases hx
theorem records_len (xs : List Int) : ∀ x ∈ (records xs).1, x.length ≤ xs.length := recs_len (scan_len _ _ _)
/-- A record's frame. -/
def frame (num : Int) (b : List Int) : List Int := Frm.frame 2 (Le.le 8 num ++ b)
theorem frame_length (num : Int) (b : List Int) : (frame num b).length = 20 + b.length := by
  unfold frame
  rw [Frm.frame_length, List.length_append, Le.le_length]
  omega
end Go.Proofs.Ytipmkddcdnbihaa.DiaryP
