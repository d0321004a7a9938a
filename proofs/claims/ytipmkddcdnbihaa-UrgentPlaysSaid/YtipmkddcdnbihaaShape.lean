/- Go data of whatever shape, opened: numbers, bools, texts, slices, structs. No program in sight. -/
import Derived.Test.YtipmkddcdnbihaaBase
import Derived.ChangeArms
namespace Go.Proofs.Ytipmkddcdnbihaa.Shape
open Go.RowKit Base

mutual
inductive Sh where
  | int (k : IntKind)
  | bool
  | str
  | sl (e : Sh)
  | st (fs : Fs)
inductive Fs where
  | nil
  | cons (s : Sh) (fs : Fs)
end
mutual
def Sh.T : Sh → Type
  | .int _ => Int
  | .bool => Bool
  | .str => ByteArray
  | .sl e => Option Addr × Nat × Nat × List e.T
  | .st fs => fs.T
def Fs.T : Fs → Type
  | .nil => Unit
  | .cons s fs => s.T × fs.T
end
mutual
def Sh.size : Sh → Nat
  | .int _ => 1
  | .bool => 1
  | .str => 1
  | .sl _ => 1
  | .st fs => fs.size
def Fs.size : Fs → Nat
  | .nil => 0
  | .cons s fs => s.size + fs.size
end
mutual
def Sh.cells : (s : Sh) → s.T → List Value
  | .int k, x => [.int k x]
  | .bool, b => [.bool b]
  | .str, s => [.string s]
  | .sl _, d => [.slice d.1 d.2.1 d.2.2.1]
  | .st fs, d => fs.cells d
def Fs.cells : (fs : Fs) → fs.T → List Value
  | .nil, _ => []
  | .cons s fs, d => s.cells d.1 ++ fs.cells d.2
end
mutual
def Sh.ok (w : World) : (s : Sh) → s.T → Prop
  | .int k, x => (Lit.int k x).wf = true
  | .bool, _ => True
  | .str, s => s.size ≤ maxLen
  | .sl e, d => d.2.2.2.length = d.2.1 ∧ d.2.1 ≤ d.2.2.1 ∧ d.2.2.1 ≤ maxLen ∧ (d.1 = none → d.2.2.1 = 0) ∧
      ∀ i x, d.2.2.2[i]? = some x → e.ok w x ∧ ∃ ad, d.1 = some ad ∧ ∀ j u, (e.cells x)[j]? = some u → w.cell? (ad.add (i * e.size + j)) = some u
  | .st fs, d => fs.ok w d
def Fs.ok (w : World) : (fs : Fs) → fs.T → Prop
  | .nil, _ => True
  | .cons s fs, d => s.ok w d.1 ∧ fs.ok w d.2
end
mutual
def Sh.fits (P : Program) : Sh → TypeId → Bool
  | .int k, t => match P.underlying t with | some (.int k') => decide (k' = k) | _ => false
  | .bool, t => match P.underlying t with | some .bool => true | _ => false
  | .str, t => match P.underlying t with | some .string => true | _ => false
  | .sl e, t => match P.underlying t with | some (.slice te) => e.fits P te && decide (P.cellsOf te = e.size) | _ => false
  | .st fs, t => match P.underlying t with | some (.struct a) => fs.fits P a.toList 0 && decide (P.cellsOf t = fs.size) | _ => false
def Fs.fits (P : Program) : Fs → List Field → Nat → Bool
  | .nil, l, _ => l.isEmpty
  | .cons s fs, l, off => match l with
    | [] => false
    | f :: l => decide (f.offset = off) && s.fits P f.type && decide (P.cellsOf f.type = s.size) && fs.fits P l (off + s.size)
end
mutual
theorem Sh.cells_length : ∀ (s : Sh) (d : s.T), (s.cells d).length = s.size
  | .int _, _ => rfl
  | .bool, _ => rfl
  | .str, _ => rfl
  | .sl _, _ => rfl
  | .st fs, d => by simpa [Sh.cells, Sh.size] using fs.cells_length d
theorem Fs.cells_length : ∀ (fs : Fs) (d : fs.T), (fs.cells d).length = fs.size
  | .nil, _ => rfl
  | .cons s fs, d => by simp [Fs.cells, Fs.size, s.cells_length d.1, fs.cells_length d.2]
end
mutual
theorem Sh.ok_ext {w w' : World} (he : Ext w w') : ∀ (s : Sh) (d : s.T), s.ok w d → s.ok w' d
  | .int _, _, h => h
  | .bool, _, h => h
  | .str, _, h => h
  | .sl e, d, h => by
    unfold Sh.ok at h ⊢
    refine ⟨h.1, h.2.1, h.2.2.1, h.2.2.2.1, fun i x hx => ?_⟩
    obtain ⟨h1, ad, h2, h3⟩ := h.2.2.2.2 i x hx
    exact ⟨e.ok_ext he x h1, ad, h2, fun j u hu => he.cell_ (h3 j u hu)⟩
  | .st fs, d, h => by unfold Sh.ok at h ⊢; exact fs.ok_ext he d h
theorem Fs.ok_ext {w w' : World} (he : Ext w w') : ∀ (fs : Fs) (d : fs.T), fs.ok w d → fs.ok w' d
  | .nil, _, h => h
  | .cons s fs, d, h => by unfold Fs.ok at h ⊢; exact ⟨s.ok_ext he d.1 h.1, fs.ok_ext he d.2 h.2⟩
end
theorem choose_list {α : Type} {p : Nat → α → Prop} : ∀ (n : Nat), (∀ i, i < n → ∃ x, p i x) → ∃ l : List α, l.length = n ∧ ∀ i x, l[i]? = some x → p i x
  | 0, _ => ⟨[], rfl, fun i x h => by simp at h⟩
  | n + 1, h => by
    obtain ⟨l, h1, h2⟩ := choose_list n fun i hi => h i (Nat.lt_succ_of_lt hi)
    obtain ⟨x, hx⟩ := h n (Nat.lt_succ_self n)
    refine ⟨l ++ [x], by simp [h1], fun i y hy => ?_⟩
    rcases Nat.lt_or_ge i n with hi | hi
    · rw [List.getElem?_append_left (by omega)] at hy
      exact h2 i y hy
    · rw [List.getElem?_append_right (by omega), h1] at hy
      have : i - n = 0 := by
        rcases Nat.eq_zero_or_pos (i - n) with h | h
        · exact h
        · rw [List.getElem?_eq_none (by simp; omega)] at hy; cases hy
      rw [this] at hy
      simp at hy
      subst hy
      rw [show i = n by omega]
      exact hx
theorem cells_get {w : World} {base : Nat} {a : Addr} {n : Nat} {cs : List Value} (h : w.cells? base a n = some cs) : ∀ j u, cs[j]? = some u → w.cell? (a.add j) = some u := by
  intro j u hu
  unfold World.cells? at h
  split at h
  · have hl := mapM_some_length h
    rw [List.length_range] at hl
    have hj : j < n := by
      rcases Nat.lt_or_ge j n with h1 | h1
      · exact h1
      · rw [List.getElem?_eq_none (by omega)] at hu; cases hu
    have := mapM_some_get h j j (by simp [hj])
    rw [this, hu]
  · cases h
section
variable {H : Type} {enc : TypeId × Value → H} {P : Program} {w : World} {base : Nat} {spare : Nat → Bool} {held : Bool}
mutual
theorem Sh.opens : ∀ (s : Sh) (t : TypeId) (fuel : Nat) (cs : List Value) (x : DataW H × List MemPlace), s.fits P t = true → DataW.trod enc P w base spare held fuel t cs = some x → ∃ d : s.T, cs = s.cells d ∧ s.ok w d
  | .int k, t, fuel, cs, x, hf, h => by
    unfold Sh.fits at hf
    split at hf
    · rename_i k' hu
      simp at hf
      subst hf
      obtain ⟨n, rfl, _, hw⟩ := DataW.trod_int hu h
      exact ⟨n, rfl, hw⟩
    · cases hf
  | .bool, t, fuel, cs, x, hf, h => by
    unfold Sh.fits at hf
    split at hf
    · rename_i hu
      obtain ⟨b, rfl, _⟩ := DataW.trod_bool hu h
      exact ⟨b, rfl, trivial⟩
    · cases hf
  | .str, t, fuel, cs, x, hf, h => by
    unfold Sh.fits at hf
    split at hf
    · rename_i hu
      obtain ⟨b, rfl, _, hb⟩ := DataW.trod_string hu h
      exact ⟨b, rfl, hb⟩
    · cases hf
  | .sl e, t, fuel, cs, x, hf, h => by
    unfold Sh.fits at hf
    split at hf
    · rename_i te hu
      simp only [Bool.and_eq_true, decide_eq_true_eq] at hf
      rcases DataW.trod_slice hu h with ⟨rfl, _⟩ | ⟨a, len, cap, elems, rest, n, _, rfl, _, _, hl, hm, hlen, hel, _, _⟩
      · exact ⟨(none, 0, 0, []), rfl, by simp [Sh.ok]⟩
      · obtain ⟨l, hl1, hl2⟩ := choose_list (α := e.T) (p := fun i x => e.ok w x ∧ ∀ j u, (e.cells x)[j]? = some u → w.cell? (a.add (i * e.size + j)) = some u) len fun i hi => by
          have h1 := hel i hi
          rw [List.getElem?_eq_getElem (by omega), Option.bind_eq_some_iff] at h1
          obtain ⟨cs', h2, h3⟩ := h1
          obtain ⟨d, h4, h5⟩ := Sh.opens e te n cs' _ hf.1 h3
          refine ⟨d, h5, fun j u hu => ?_⟩
          have h6 := cells_get h2 j u (by rw [h4]; exact hu)
          rw [hf.2, add_of_add] at h6
          exact h6
        refine ⟨(some a, len, cap, l), rfl, ?_⟩
        exact ⟨hl1, hl, hm, fun h => (by cases h), fun i x hx => ⟨(hl2 i x hx).1, a, rfl, (hl2 i x hx).2⟩⟩
    · cases hf
  | .st fs, t, fuel, cs, x, hf, h => by
    unfold Sh.fits at hf
    split at hf
    · rename_i a hu
      simp only [Bool.and_eq_true, decide_eq_true_eq] at hf
      obtain ⟨xs, n, _, _, h1, h2, h3⟩ := DataW.trod_struct hu h
      obtain ⟨d, h4, h5⟩ := Fs.opens fs a.toList 0 n cs hf.1 (fun f hm => by
        obtain ⟨i, hi, he⟩ := List.mem_iff_getElem.1 hm
        have h6 := h3 i f (by rw [← Array.getElem?_toList, List.getElem?_eq_getElem hi, he])
        rw [List.getElem?_eq_getElem (by rw [h2]; simpa using hi)] at h6
        exact ⟨_, h6⟩) (by omega)
      refine ⟨d, ?_, h5⟩
      rw [List.drop_zero, List.take_of_length_le (by omega)] at h4
      exact h4
    · cases hf
theorem Fs.opens : ∀ (fs : Fs) (l : List Field) (off : Nat) (fuel : Nat) (cs : List Value), fs.fits P l off = true → (∀ f ∈ l, ∃ x, DataW.trod enc P w base spare held fuel f.type ((cs.drop f.offset).take (P.cellsOf f.type)) = some x) → off + fs.size ≤ cs.length →
    ∃ d : fs.T, (cs.drop off).take fs.size = fs.cells d ∧ fs.ok w d
  | .nil, _, _, _, _, _, _, _ => ⟨(), by simp [Fs.size, Fs.cells], trivial⟩
  | .cons s fs, l, off, fuel, cs, hf, h, hl => by
    unfold Fs.fits at hf
    cases l with
    | nil => cases hf
    | cons f l =>
      simp only [Bool.and_eq_true, decide_eq_true_eq] at hf
      obtain ⟨⟨⟨h1, h2⟩, h3⟩, h4⟩ := hf
      obtain ⟨x, hx⟩ := h f List.mem_cons_self
      rw [h1, h3] at hx
      obtain ⟨d1, h5, h6⟩ := Sh.opens s f.type fuel _ x h2 hx
      unfold Fs.size at hl
      obtain ⟨d2, h7, h8⟩ := Fs.opens fs l (off + s.size) fuel cs h4 (fun f hm => h f (List.mem_cons_of_mem _ hm)) (by omega)
      refine ⟨(d1, d2), ?_, h6, h8⟩
      show (cs.drop off).take (s.size + fs.size) = s.cells d1 ++ fs.cells d2
      rw [← h5, ← h7, List.take_add, List.drop_drop]
end
end
/-- A slice that came in, opened. -/
theorem sl_of_trod {H : Type} {enc : TypeId × Value → H} {P : Program} {W : World} {base : Nat} {spare : Nat → Bool} {held : Bool} (s : Sh) {t : TypeId} {a : Option Addr} {len cap : Nat} {d : DataW H} {ps : List MemPlace} (hf : (Sh.sl s).fits P t = true)
    (h : DataW.Trod enc P W base spare held t (.slice a len cap) d ps) : ∃ l : List s.T, (Sh.sl s).ok W (a, len, cap, l) := by
  obtain ⟨fuel, hf'⟩ := h
  obtain ⟨⟨a', len', cap', l⟩, h1, h2⟩ := Sh.opens (.sl s) t fuel _ _ hf hf'
  have h3 : ([.slice a len cap] : List Value) = [.slice a' len' cap'] := h1
  simp at h3
  obtain ⟨rfl, rfl, rfl⟩ := h3
  exact ⟨l, h2⟩
/-- A slice of numbers reads so. -/
theorem rd_of_ok {w : World} {k : IntKind} {A : Option Addr} {n c : Nat} {l : List Int} (h : (Sh.sl (.int k)).ok w (A, n, c, l)) : Rd w k A n l := by
  obtain ⟨h1, h2, h3, h4, h5⟩ : l.length = n ∧ n ≤ c ∧ c ≤ maxLen ∧ (A = none → c = 0) ∧ ∀ i (x : Int), l[i]? = some x → (Lit.int k x).wf = true ∧ ∃ ad, A = some ad ∧ ∀ j u, ([Value.int k x] : List Value)[j]? = some u → w.cell? (ad.add (i * 1 + j)) = some u := h
  refine ⟨h1, by simp only [maxLen] at h3; omega, fun x hx => ?_, fun h0 => ?_⟩
  · obtain ⟨i, hi, rfl⟩ := List.mem_iff_getElem.1 hx
    exact (h5 i _ (List.getElem?_eq_getElem hi)).1
  · obtain ⟨_, ad, ha, _⟩ := h5 0 _ (List.getElem?_eq_getElem (by omega))
    refine ⟨ad, ha, fun j hj => ?_⟩
    obtain ⟨_, ad', ha', hc⟩ := h5 j _ (List.getElem?_eq_getElem (by omega))
    rw [ha] at ha'
    cases ha'
    have := hc 0 _ rfl
    rw [Nat.mul_one, Nat.add_zero] at this
    rw [this, List.getD_eq_getElem?_getD, List.getElem?_eq_getElem (by omega)]
    rfl
end Go.Proofs.Ytipmkddcdnbihaa.Shape
