/- A world without what a law writes: block g and boxes, from block N on. No program in sight. -/
import Derived.Test.YtfhgjopoohfhjaaErase
namespace Go.Proofs.Ytfhgjopoohfhjaa.Erase
open Go.RowKit Base Step Vec Shape
def mask (w : World) (N g : Nat) : World := { w with heap := w.heap.mapIdx fun i o => if N ≤ i ∧ (i = g ∨ plainO o = true) then .map #[] 0 else o }
theorem mask_get {w : World} {N g i : Nat} : (mask w N g).heap[i]? = (w.heap[i]?).map fun o => if N ≤ i ∧ (i = g ∨ plainO o = true) then .map #[] 0 else o := by
  simp only [mask]
  rw [Array.getElem?_mapIdx]
theorem mask_at {w : World} {N g i : Nat} {o : Obj} (h : w.heap[i]? = some o) (hn : ¬ (N ≤ i ∧ (i = g ∨ plainO o = true))) : (mask w N g).heap[i]? = some o := by
  rw [mask_get, h]
  simp [hn]
theorem mask_cell' {w : World} {N g : Nat} {a : Addr} {v : Value} (h : (mask w N g).cell? a = some v) : w.cell? a = some v ∧ ∃ o, w.heap[a.block]? = some o ∧ ¬ (N ≤ a.block ∧ (a.block = g ∨ plainO o = true)) := by
  unfold World.cell? at h ⊢
  rw [mask_get] at h
  cases ho : w.heap[a.block]? with
  | none => rw [ho] at h; cases h
  | some o =>
    rw [ho] at h
    by_cases hn : N ≤ a.block ∧ (a.block = g ∨ plainO o = true)
    · simp [hn] at h
    · exact ⟨by simpa [hn] using h, o, rfl, hn⟩
theorem cell_mask {w : World} {N g : Nat} {a : Addr} {v : Value} {o : Obj} (h : w.cell? a = some v) (ho : w.heap[a.block]? = some o) (hn : ¬ (N ≤ a.block ∧ (a.block = g ∨ plainO o = true))) : (mask w N g).cell? a = some v := by
  unfold World.cell? at h ⊢
  rw [mask_at ho hn]
  rwa [ho] at h
/-- Whatever is hidden may be written. -/
theorem mask_chg {w w' : World} {N g : Nat} {S : Nat → Prop} (hc : Chg S w w') (hS : ∀ i, S i → N ≤ i ∧ (i = g ∨ ∀ o, w.heap[i]? = some o → plainO o = true)) : ∀ a v, (mask w N g).cell? a = some v → (mask w' N g).cell? a = some v := fun a v h => by
  obtain ⟨h1, o, h2, h3⟩ := mask_cell' h
  have hn : ¬ S a.block := fun hs => by
    obtain ⟨k1, k2⟩ := hS _ hs
    exact h3 ⟨k1, k2.elim .inl fun k => .inr (k o h2)⟩
  exact cell_mask (hc.cell h1 hn) (hc.at_ h2 hn) h3
theorem mask_ext {w w' : World} {N g : Nat} (he : Ext w w') : ∀ a v, (mask w N g).cell? a = some v → (mask w' N g).cell? a = some v := mask_chg (S := fun _ => False) (Below.chg he) fun _ k => k.elim
/-- What was there ahead of N is read. -/
theorem mask_old {w w' : World} {g : Nat} (he : Ext w w') : ∀ a v, w.cell? a = some v → (mask w' w.heap.size g).cell? a = some v := fun a v h => by
  have hlt := World.block_lt_of_cell? w a h
  obtain ⟨o, ho⟩ : ∃ o, w.heap[a.block]? = some o := ⟨_, Array.getElem?_eq_getElem hlt⟩
  exact cell_mask (he.cell_ h) (he.at_ ho) fun k => by omega
end Go.Proofs.Ytfhgjopoohfhjaa.Erase
