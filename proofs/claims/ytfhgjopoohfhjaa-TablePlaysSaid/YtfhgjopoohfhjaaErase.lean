/- Data of whatever shape beside one block that is written: it is read in the world without that block. No program in sight. -/
import Derived.Test.YtfhgjopoohfhjaaShape
import Derived.Test.YtfhgjopoohfhjaaVec
namespace Go.Proofs.Ytfhgjopoohfhjaa.Erase
open Go.RowKit Base Step Vec Shape
/-- The law's own rows of numbers, and its boxes for the document's table. -/
def plainT (T : TypeId) : Bool := decide (T = 77) || decide (T = 149)
def plainO (o : Obj) : Bool := match o with | .cells _ T _ => plainT T | _ => false
/-- A world without what lies in block g, and without such blocks. -/
def erase (w : World) (g : Nat) : World := { w with heap := (w.heap.map fun o => if plainO o then .map #[] 0 else o).setIfInBounds g (.map #[] 0) }
theorem erase_size (w : World) (g : Nat) : (erase w g).heap.size = w.heap.size := by simp [erase]
theorem erase_at {w : World} {g i : Nat} (h : i ≠ g) : (erase w g).heap[i]? = (w.heap[i]?).map fun o => if plainO o then .map #[] 0 else o := by
  simp only [erase]
  rw [Array.getElem?_setIfInBounds_ne (Ne.symm h), Array.getElem?_map]
theorem erase_own {w : World} {g : Nat} (h : g < w.heap.size) : (erase w g).heap[g]? = some (.map #[] 0) := by
  simp [erase, h]
theorem erase_out {w : World} {g i : Nat} (h : w.heap.size ≤ i) : (erase w g).heap[i]? = none := by
  rw [Array.getElem?_eq_none]
  rw [erase_size]
  exact h
/-- What is read there is read, in a block that is none of these. -/
theorem erase_cell' {w : World} {g : Nat} {a : Addr} {v : Value} (h : (erase w g).cell? a = some v) : w.cell? a = some v ∧ a.block ≠ g ∧ ∃ o, w.heap[a.block]? = some o ∧ plainO o = false := by
  rcases Nat.lt_or_ge a.block w.heap.size with h1 | h1
  · by_cases hg : a.block = g
    · unfold World.cell? at h
      rw [hg, erase_own (by rw [← hg]; exact h1)] at h
      cases h
    · obtain ⟨o, ho⟩ : ∃ o, w.heap[a.block]? = some o := ⟨_, Array.getElem?_eq_getElem h1⟩
      unfold World.cell? at h ⊢
      rw [erase_at hg, ho] at h
      cases hp : plainO o with
      | true => simp [hp] at h
      | false =>
        rw [ho]
        refine ⟨?_, hg, o, rfl, hp⟩
        simpa [hp] using h
  · unfold World.cell? at h
    rw [erase_out h1] at h
    cases h
theorem erase_cell {w : World} {g : Nat} {a : Addr} {v : Value} (h : (erase w g).cell? a = some v) : w.cell? a = some v := (erase_cell' h).1
/-- And what is read elsewhere is read there. -/
theorem cell_erase {w : World} {g : Nat} {a : Addr} {v : Value} (h : w.cell? a = some v) (hp : ∀ cs T f, w.heap[a.block]? = some (.cells cs T f) → plainT T = false) (hg : a.block ≠ g) : (erase w g).cell? a = some v := by
  unfold World.cell? at h ⊢
  rw [erase_at hg]
  cases ho : w.heap[a.block]? with
  | none => rw [ho] at h; cases h
  | some o =>
    rw [ho] at h
    have hq : plainO o = false := by
      cases o with
      | cells cs T f =>
        exact hp cs T f ho
      | _ => rfl
    simpa [hq] using h
/-- A row of other things lies in no such block. -/
theorem own_not {W : World} {S : Nat → Prop} {T : TypeId} {size n c : Nat} {A : Option Addr} {xs : List Value} (h : Own W S T size (.slice A n c) n xs) (hT : plainT T = false) {b : Nat} (hb : A.map (·.block) = some b) : ∀ cs T' f, W.heap[b]? = some (.cells cs T' f) → plainT T' = false := fun cs T' f hh => by
  rcases Decidable.em (T = T') with e | e
  · rw [← e]; exact hT
  exfalso
  refine h.ne hh e ?_
  cases A with
  | none => cases hb
  | some a => exact hb
theorem erase_chg {w w' : World} {g : Nat} (h : Chg (fun i => i = g) w w') : Ext (erase w g) (erase w' g) :=
  ⟨h.os, h.tape, h.output, by rw [erase_size, erase_size]; exact h.size, fun i hi => by
    rw [erase_size] at hi
    by_cases hg : i = g
    · subst hg
      rw [erase_own hi, erase_own (Nat.lt_of_lt_of_le hi h.size)]
    · rw [erase_at hg, erase_at hg, h.block i hi hg]⟩
theorem erase_ext {w w' : World} {g : Nat} (h : Ext w w') : Ext (erase w g) (erase w' g) := erase_chg (Below.chg h)
mutual
/-- Whoever reads at least as much reads the same. -/
theorem Sh.ok_le {w w' : World} (hc : ∀ a v, w.cell? a = some v → w'.cell? a = some v) : ∀ (s : Sh) (d : s.T), s.ok w d → s.ok w' d
  | .int _, _, h => h
  | .bool, _, h => h
  | .str, _, h => h
  | .sl e, d, h => by
    unfold Sh.ok at h ⊢
    refine ⟨h.1, h.2.1, h.2.2.1, h.2.2.2.1, fun i x hx => ?_⟩
    obtain ⟨h1, ad, h2, h3⟩ := h.2.2.2.2 i x hx
    exact ⟨Sh.ok_le hc e x h1, ad, h2, fun j u hu => hc _ _ (h3 j u hu)⟩
  | .st fs, d, h => by unfold Sh.ok at h ⊢; exact Fs.ok_le hc fs d h
theorem Fs.ok_le {w w' : World} (hc : ∀ a v, w.cell? a = some v → w'.cell? a = some v) : ∀ (fs : Fs) (d : fs.T), fs.ok w d → fs.ok w' d
  | .nil, _, h => h
  | .cons s fs, d, h => by unfold Fs.ok at h ⊢; exact ⟨Sh.ok_le hc s d.1 h.1, Fs.ok_le hc fs d.2 h.2⟩
end
theorem Sh.ok_off {w : World} {g : Nat} {s : Sh} {d : s.T} (h : s.ok (erase w g) d) : s.ok w d := Sh.ok_le (fun _ _ => erase_cell) s d h
/-- Such blocks are written. -/
theorem Sh.ok_plain {w w' : World} {g : Nat} {S : Nat → Prop} {s : Sh} {d : s.T} (h : s.ok (erase w g) d) (hc : Chg S w w') (hS : ∀ i, S i → ∃ cs T f, w.heap[i]? = some (.cells cs T f) ∧ plainT T = true) : s.ok (erase w' g) d := Sh.ok_le (fun a v k => by
  obtain ⟨h1, h2, o, h3, h4⟩ := erase_cell' k
  have hn : ¬ S a.block := fun hs => by
    obtain ⟨cs, T, f, h5, h6⟩ := hS _ hs
    rw [h3] at h5
    cases h5
    rw [show plainO (.cells cs T f) = plainT T from rfl, h6] at h4
    cases h4
  refine cell_erase (hc.cell h1 hn) (fun cs T f h5 => ?_) h2
  rw [hc.at_ h3 hn] at h5
  cases h5
  exact h4) s d h
/-- All cells of a list of data. -/
def cellsL (e : Sh) (l : List e.T) : List Value := l.flatMap fun x => e.cells x
theorem cellsL_length (e : Sh) (l : List e.T) : (cellsL e l).length = l.length * e.size := by
  induction l with
  | nil => simp [cellsL]
  | cons x l ih =>
    have : cellsL e (x :: l) = e.cells x ++ cellsL e l := rfl
    rw [this, List.length_append, ih, e.cells_length, List.length_cons, Nat.succ_mul]
    omega
theorem cellsL_get {e : Sh} {l : List e.T} {i k : Nat} {x : e.T} (h : l[i]? = some x) (hk : k < e.size) : (cellsL e l)[i * e.size + k]? = (e.cells x)[k]? :=
  get_flat (fun x => e.cells x) e.size (fun r => e.cells_length r) l i k x h hk
mutual
theorem Sh.cells_one : ∀ (s : Sh) (d : s.T), ∀ u ∈ s.cells d, u.oneCell' = true
  | .int _, _, u, h => by simp [Sh.cells] at h; subst h; rfl
  | .bool, _, u, h => by simp [Sh.cells] at h; subst h; rfl
  | .str, _, u, h => by simp [Sh.cells] at h; subst h; rfl
  | .sl _, _, u, h => by simp [Sh.cells] at h; subst h; rfl
  | .st fs, d, u, h => Fs.cells_one fs d u (by simpa [Sh.cells] using h)
theorem Fs.cells_one : ∀ (fs : Fs) (d : fs.T), ∀ u ∈ fs.cells d, u.oneCell' = true
  | .nil, _, u, h => by simp [Fs.cells] at h
  | .cons s fs, d, u, h => by
    simp only [Fs.cells, List.mem_append] at h
    exact h.elim (Sh.cells_one s d.1 u) (Fs.cells_one fs d.2 u)
end
/-- What a slice reads, cell by cell. -/
theorem ok_cells {w : World} {e : Sh} {A : Option Addr} {n c : Nat} {l : List e.T} (h : (Sh.sl e).ok w (A, n, c, l)) (hs : 0 < e.size) : ∀ ad, A = some ad → ∀ j u, (cellsL e l)[j]? = some u → w.cell? (ad.add j) = some u := fun ad ha j u hu => by
  obtain ⟨_, _, _, _, h5⟩ : l.length = n ∧ n ≤ c ∧ c ≤ maxLen ∧ (A = none → c = 0) ∧ ∀ (i : Nat) (x : e.T), l[i]? = some x → e.ok w x ∧ ∃ ad, A = some ad ∧ ∀ (j : Nat) u, (e.cells x)[j]? = some u → w.cell? (ad.add (i * e.size + j)) = some u := h
  have hj : j < l.length * e.size := by rw [← cellsL_length]; exact (List.getElem?_eq_some_iff.1 hu).1
  have hq : j / e.size < l.length := (Nat.div_lt_iff_lt_mul hs).2 hj
  have hr : j % e.size < e.size := Nat.mod_lt _ hs
  obtain ⟨x, hx⟩ : ∃ x, l[j / e.size]? = some x := ⟨_, List.getElem?_eq_getElem hq⟩
  have e1 : j = j / e.size * e.size + j % e.size := by rw [Nat.mul_comm]; exact (Nat.div_add_mod j e.size).symm
  rw [e1, cellsL_get hx hr] at hu
  obtain ⟨_, ad', ha', hc⟩ := h5 _ x hx
  rw [ha] at ha'
  cases ha'
  have := hc _ u hu
  rwa [← e1] at this
/-- A row of the call's own reads so. -/
theorem ok_own {w W : World} {S : Nat → Prop} {T : TypeId} {e : Sh} {A : Option Addr} {n c : Nat} {l : List e.T} (h : Own W S T e.size (.slice A n c) n (cellsL e l)) (hs : 0 < e.size) (hl : l.length = n) (hx : ∀ x ∈ l, e.ok w x) (hw : ∀ a v, A.map (·.block) = some a.block → W.cell? a = some v → w.cell? a = some v) (hc : c ≤ maxLen) : (Sh.sl e).ok w (A, n, c, l) := by
  obtain ⟨h1, h2⟩ := h.cap
  show l.length = n ∧ n ≤ c ∧ c ≤ maxLen ∧ (A = none → c = 0) ∧ ∀ (i : Nat) (x : e.T), l[i]? = some x → e.ok w x ∧ ∃ ad, A = some ad ∧ ∀ (j : Nat) u, (e.cells x)[j]? = some u → w.cell? (ad.add (i * e.size + j)) = some u
  refine ⟨hl, h1, hc, h2, fun i x hix => ⟨hx x (List.mem_of_getElem? hix), ?_⟩⟩
  have hsz : 0 < (e.cells x).length := by rw [e.cells_length]; exact hs
  obtain ⟨ad, hA, _⟩ := own_cell h (j := i * e.size + 0) (u := (e.cells x)[0]) (by rw [cellsL_get hix hs, List.getElem?_eq_getElem hsz])
  refine ⟨ad, hA, fun j u hu => ?_⟩
  have hj : j < e.size := by have := (List.getElem?_eq_some_iff.1 hu).1; rwa [e.cells_length] at this
  obtain ⟨ad', hA', hcell⟩ := own_cell h (j := i * e.size + j) (u := u) (by rw [cellsL_get hix hj]; exact hu)
  rw [hA] at hA'
  cases hA'
  exact hw _ _ (by rw [hA]; simp [block_add]) hcell
end Go.Proofs.Ytfhgjopoohfhjaa.Erase
