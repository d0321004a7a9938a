import Derived.Test.YtipmkddcdnbihaaShape
namespace Go.Proofs.Ytipmkddcdnbihaa.Shape
open Go.RowKit Base
theorem st_of_trod {H : Type} {enc : TypeId × Value → H} {P : Program} {W : World} {base : Nat} {spare : Nat → Bool} {held : Bool} (fs : Fs) {t : TypeId} {cs : Array Value} {d : DataW H} {ps : List MemPlace} (hf : (Sh.st fs).fits P t = true)
    (h : DataW.Trod enc P W base spare held t (.agg cs) d ps) : ∃ l : fs.T, cs = (fs.cells l).toArray ∧ fs.ok W l := by
  obtain ⟨fuel, hf'⟩ := h
  obtain ⟨l, h1, h2⟩ := Sh.opens (.st fs) t fuel _ _ hf hf'
  have h3 : cs.toList = fs.cells l := h1
  exact ⟨l, by rw [← h3], h2⟩
end Go.Proofs.Ytipmkddcdnbihaa.Shape
