/- Go data of whatever shape, opened, with what its parts weigh at most. No program in sight. -/
import Derived.Test.YtfhgjopoohfhjaaShape
import Derived.SizedLaws
namespace Go.Proofs.Ytfhgjopoohfhjaa.Shape
open Go.RowKit Base
mutual
/-- Each slice and each text is within the row's reach. -/
def Sh.small (P : Program) : (s : Sh) → TypeId → s.T → Prop
  | .int _, _, _ => True
  | .bool, _, _ => True
  | .str, _, x => ByteArray.size x ≤ reachBytes
  | .sl e, t, d => ∀ te, P.underlying t = some (.slice te) → d.2.1 * P.bytesOf te ≤ reachBytes ∧ ∀ x ∈ d.2.2.2, e.small P te x
  | .st fs, t, d => ∀ a, P.underlying t = some (.struct a) → fs.small P a.toList d
def Fs.small (P : Program) : (fs : Fs) → List Field → fs.T → Prop
  | .nil, _, _ => True
  | .cons _ _, [], _ => True
  | .cons s fs, f :: l, d => s.small P f.type d.1 ∧ fs.small P l d.2
end
theorem weights_mem_all {H : Type} {P : Program} {e : TypeId} : ∀ {l : List (DataW H)} {d : DataW H}, d ∈ l → ∀ n ∈ d.weights P e, n ∈ DataW.weightsAll P e l
  | x :: l, d, h, n, hn => by
    simp only [DataW.weightsAll, List.mem_append]
    rcases List.mem_cons.1 h with rfl | h
    · exact .inl hn
    · exact .inr (weights_mem_all h n hn)
section
variable {H : Type} {enc : TypeId × Value → H} {P : Program} {w : World} {base : Nat} {spare : Nat → Bool} {held : Bool}
mutual
theorem Sh.opensW : ∀ (s : Sh) (t : TypeId) (fuel : Nat) (cs : List Value) (x : DataW H × List MemPlace), s.fits P t = true → DataW.trod enc P w base spare held fuel t cs = some x → (∀ n ∈ x.1.weights P t, n ≤ reachBytes) → ∃ d : s.T, cs = s.cells d ∧ s.ok w d ∧ s.small P t d
  | .int k, t, fuel, cs, x, hf, h, _ => by
    obtain ⟨d, h1, h2⟩ := Sh.opens (.int k) t fuel cs x hf h
    exact ⟨d, h1, h2, trivial⟩
  | .bool, t, fuel, cs, x, hf, h, _ => by
    obtain ⟨d, h1, h2⟩ := Sh.opens .bool t fuel cs x hf h
    exact ⟨d, h1, h2, trivial⟩
  | .str, t, fuel, cs, x, hf, h, hw => by
    unfold Sh.fits at hf
    split at hf
    · rename_i hu
      obtain ⟨b, rfl, rfl, hb⟩ := DataW.trod_string hu h
      refine ⟨b, rfl, hb, ?_⟩
      have := hw b.data.toList.length (by simp [DataW.weights])
      rw [Array.length_toList] at this
      exact this
    · cases hf
  | .sl e, t, fuel, cs, x, hf, h, hw => by
    unfold Sh.fits at hf
    split at hf
    · rename_i te hu
      simp only [Bool.and_eq_true, decide_eq_true_eq] at hf
      rcases DataW.trod_slice hu h with ⟨rfl, _⟩ | ⟨a, len, cap, elems, rest, n, _, rfl, rfl, _, hl, hm, hlen, hel, _, _⟩
      · exact ⟨(none, 0, 0, []), rfl, by simp [Sh.ok], fun te' _ => ⟨by simp, fun x hx => by cases hx⟩⟩
      · simp only [DataW.weights, hu] at hw
        obtain ⟨l, hl1, hl2⟩ := choose_list (α := e.T) (p := fun i x => e.ok w x ∧ (∀ j u, (e.cells x)[j]? = some u → w.cell? (a.add (i * e.size + j)) = some u) ∧ e.small P te x) len fun i hi => by
          have h1 := hel i hi
          rw [List.getElem?_eq_getElem (by omega), Option.bind_eq_some_iff] at h1
          obtain ⟨cs', h2, h3⟩ := h1
          obtain ⟨d, h4, h5, h7⟩ := Sh.opensW e te n cs' _ hf.1 h3 fun m hm => hw m (List.mem_cons_of_mem _ (List.mem_append_left _ (weights_mem_all (List.mem_map.2 ⟨_, List.getElem_mem (by omega), rfl⟩) m hm)))
          refine ⟨d, h5, fun j u hu => ?_, h7⟩
          have h6 := cells_get h2 j u (by rw [h4]; exact hu)
          rw [hf.2, add_of_add] at h6
          exact h6
        refine ⟨(some a, len, cap, l), rfl, ?_, ?_⟩
        · exact ⟨hl1, hl, hm, fun h => (by cases h), fun i x hx => ⟨(hl2 i x hx).1, a, rfl, (hl2 i x hx).2.1⟩⟩
        · intro te' hu'
          rw [hu] at hu'
          cases hu'
          refine ⟨?_, fun x hx => ?_⟩
          · have h1 := hw _ List.mem_cons_self
            simp only [List.length_map, hlen] at h1
            exact Nat.le_trans (Nat.mul_le_mul_right _ (Nat.le_add_right _ _)) h1
          · have hx : x ∈ l := hx
            obtain ⟨i, hi, hix⟩ := List.getElem_of_mem hx
            exact (hl2 i x (by rw [List.getElem?_eq_getElem hi, hix])).2.2
    · cases hf
  | .st fs, t, fuel, cs, x, hf, h, hw => by
    unfold Sh.fits at hf
    split at hf
    · rename_i a hu
      simp only [Bool.and_eq_true, decide_eq_true_eq] at hf
      obtain ⟨xs, n, _, rfl, h1, h2, h3⟩ := DataW.trod_struct hu h
      simp only [DataW.weights, hu] at hw
      obtain ⟨d, h4, h5, h7⟩ := Fs.opensW fs a.toList 0 n cs hf.1 (fun f hm => by
        obtain ⟨i, hi, he⟩ := List.mem_iff_getElem.1 hm
        have h6 := h3 i f (by rw [← Array.getElem?_toList, List.getElem?_eq_getElem hi, he])
        have hix : i < xs.length := by rw [h2]; simpa using hi
        rw [List.getElem?_eq_getElem hix] at h6
        exact ⟨_, h6, fun m hm => hw m (DataW.weights_mem_each (j := i) (t := f.type) (by simp only [List.getElem?_map, List.getElem?_eq_getElem hi, he]; rfl) (by rw [List.getElem?_map, List.getElem?_eq_getElem hix]; rfl) m hm)⟩) (by omega)
      refine ⟨d, ?_, h5, ?_⟩
      · rw [List.drop_zero, List.take_of_length_le (by omega)] at h4
        exact h4
      · intro a' hu'
        rw [hu] at hu'
        cases hu'
        exact h7
    · cases hf
theorem Fs.opensW : ∀ (fs : Fs) (l : List Field) (off : Nat) (fuel : Nat) (cs : List Value), fs.fits P l off = true → (∀ f ∈ l, ∃ x, DataW.trod enc P w base spare held fuel f.type ((cs.drop f.offset).take (P.cellsOf f.type)) = some x ∧ ∀ n ∈ x.1.weights P f.type, n ≤ reachBytes) → off + fs.size ≤ cs.length →
    ∃ d : fs.T, (cs.drop off).take fs.size = fs.cells d ∧ fs.ok w d ∧ fs.small P l d
  | .nil, _, _, _, _, _, _, _ => ⟨(), by simp [Fs.size, Fs.cells], trivial, trivial⟩
  | .cons s fs, l, off, fuel, cs, hf, h, hl => by
    unfold Fs.fits at hf
    cases l with
    | nil => cases hf
    | cons f l =>
      simp only [Bool.and_eq_true, decide_eq_true_eq] at hf
      obtain ⟨⟨⟨h1, h2⟩, h3⟩, h4⟩ := hf
      obtain ⟨x, hx, hwx⟩ := h f List.mem_cons_self
      rw [h1, h3] at hx
      obtain ⟨d1, h5, h6, h9⟩ := Sh.opensW s f.type fuel _ x h2 hx hwx
      unfold Fs.size at hl
      obtain ⟨d2, h7, h8, h10⟩ := Fs.opensW fs l (off + s.size) fuel cs h4 (fun f hm => h f (List.mem_cons_of_mem _ hm)) (by omega)
      refine ⟨(d1, d2), ?_, ⟨h6, h8⟩, ⟨h9, h10⟩⟩
      show (cs.drop off).take (s.size + fs.size) = s.cells d1 ++ fs.cells d2
      rw [← h5, ← h7, List.take_add, List.drop_drop]
end
end
/-- A slice that came in, opened, within the row's reach. -/
theorem slW_of_trod {H : Type} {enc : TypeId × Value → H} {P : Program} {W : World} {base : Nat} {spare : Nat → Bool} {held : Bool} (s : Sh) {t : TypeId} {a : Option Addr} {len cap : Nat} {d : DataW H} {ps : List MemPlace} {ts : List TypeId} {ds : List (DataW H)} {j : Nat}
    (hsz : (DataW.weightsEach P ts ds).all (· ≤ reachBytes) = true) (ht : ts[j]? = some t) (hd : ds[j]? = some d) (hf : (Sh.sl s).fits P t = true)
    (h : DataW.Trod enc P W base spare held t (.slice a len cap) d ps) : ∃ l : List s.T, (Sh.sl s).ok W (a, len, cap, l) ∧ (Sh.sl s).small P t (a, len, cap, l) := by
  obtain ⟨fuel, hf'⟩ := h
  obtain ⟨⟨a', len', cap', l⟩, h1, h2, h4⟩ := Sh.opensW (.sl s) t fuel _ _ hf hf' fun n hn => by
    have := List.all_eq_true.1 hsz _ (DataW.weights_mem_each ht hd n hn)
    simpa using this
  have h3 : ([.slice a len cap] : List Value) = [.slice a' len' cap'] := h1
  simp at h3
  obtain ⟨rfl, rfl, rfl⟩ := h3
  exact ⟨l, h2, h4⟩
end Go.Proofs.Ytfhgjopoohfhjaa.Shape
