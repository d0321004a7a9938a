/- What a call on an object may write: the blocks of S; behind it the object's blocks are those of S', which are S's and new ones. -/
import Derived.Test.YtipmkddcdnbihaaPack
import Derived.Test.YtipmkddcdnbihaaLex
import Derived.WalkSpells
namespace Go.Proofs.Ytipmkddcdnbihaa.Step
open Go.RowKit Base

structure Step (S S' : Nat → Prop) (w w' : World) : Prop where
  chg : Chg S w w'
  grow : ∀ i, S' i → S i ∨ w.heap.size ≤ i
theorem Step.refl (S : Nat → Prop) (w : World) : Step S S w w := ⟨Chg.refl _ _, fun _ h => .inl h⟩
theorem Step.trans {S S' S'' : Nat → Prop} {a b c : World} (h : Step S S' a b) (k : Step S' S'' b c) : Step S S'' a c :=
  ⟨⟨k.chg.os.trans h.chg.os, k.chg.tape.trans h.chg.tape, k.chg.output.trans h.chg.output, Nat.le_trans h.chg.size k.chg.size, fun i hi hn =>
    (k.chg.block i (Nat.lt_of_lt_of_le hi h.chg.size) fun hs => (h.grow i hs).elim hn fun h2 => by omega).trans (h.chg.block i hi hn)⟩,
   fun i hs => (k.grow i hs).elim (h.grow i) fun h2 => .inr (Nat.le_trans h.chg.size h2)⟩
theorem Step.ext {S S' : Nat → Prop} {a b c : World} (h : Step S S' a b) (k : Ext b c) : Step S S' a c := ⟨h.chg.trans (Below.chg k), h.grow⟩
theorem extStep {S S' : Nat → Prop} {a b c : World} (h : Ext a b) (k : Step S S' b c) : Step S S' a c :=
  ⟨Chg.trans (Below.chg h) k.chg, fun i hs => (k.grow i hs).imp id fun h2 => Nat.le_trans h.size h2⟩
theorem Step.size {S S' : Nat → Prop} {a b : World} (h : Step S S' a b) : a.heap.size ≤ b.heap.size := h.chg.size
/-- A slice lies off S. -/
def Off (S : Nat → Prop) (A : Option Addr) (n : Nat) : Prop := 0 < n → ∀ ad, A = some ad → ¬ S ad.block
theorem rd_step {S S' : Nat → Prop} {w w' : World} {k : IntKind} {A : Option Addr} {n : Nat} {xs : List Int} (h : Rd w k A n xs) (ho : Off S A n) (hs : Step S S' w w') : Rd w' k A n xs :=
  h.chg hs.chg fun ad ha h0 => ho h0 ad ha
theorem Off.step {S S' : Nat → Prop} {w w' : World} {k : IntKind} {A : Option Addr} {n : Nat} {xs : List Int} (ho : Off S A n) (h : Rd w k A n xs) (hs : Step S S' w w') : Off S' A n := fun h0 ad ha hS => by
  subst ha
  rcases hs.grow _ hS with h1 | h1
  · exact ho h0 ad rfl h1
  · have := h.lt h0
    omega
theorem Off.new {S : Nat → Prop} {w0 w : World} {e : TypeId} {size n c : Nat} {A : Option Addr} {xs : List Value} (h : New w0 w e size A n c xs) (hS : ∀ i, S i → i < w0.heap.size) : Off S A n := fun h0 ad ha hs => by
  obtain ⟨g, cap, hv, _, _⟩ := h.row.form h0
  cases ha
  cases hv
  have h1 : w0.heap.size ≤ g := h.foot g rfl
  have h2 : g < w0.heap.size := hS _ hs
  omega
theorem Off.old {S : Nat → Prop} {w : World} {k : IntKind} {A : Option Addr} {n : Nat} {xs : List Int} (h : Rd w k A n xs) (hS : ∀ i, S i → w.heap.size ≤ i) : Off S A n := fun h0 ad ha hs => by
  subst ha
  have := h.lt h0
  have := hS _ hs
  omega
theorem Off.nil (S : Nat → Prop) (n : Nat) : Off S none n := fun _ _ h => by cases h
theorem Off.zero (S : Nat → Prop) (A : Option Addr) : Off S A 0 := fun h => absurd h (by omega)
theorem blk_cell {w W : World} {g i : Nat} {cs : Array Value} {T : TypeId} {fr : Nat × Nat} {v : Value} (h : w.heap[g]? = some (.cells cs T fr)) (he : Ext w W) (hv : cs[i]? = some v) : W.cell? ⟨g, i, none⟩ = some v := by
  rw [cell_of_row W g i cs T fr (he.at_ h)]
  exact hv
theorem cell_at {w0 w1 : World} {g i : Nat} {cs : Array Value} {T : TypeId} {fr : Nat × Nat} {v : Value} (he : Ext w0 w1) (h : w0.heap[g]? = some (.cells cs T fr)) (hv : cs[i]? = some v) : ∀ W, Ext w1 W → W.cell? ⟨g, i, none⟩ = some v := fun _ hW => blk_cell h (he.trans hW) hv
theorem drew_ext {w W : World} (h : Ext w.drew W) : Ext w W := (Ext.refl w).drew.trans h
theorem blk_free {w W : World} {g : Nat} {cs : Array Value} {T : TypeId} (h : w.heap[g]? = some (.cells cs T (0, 0))) (he : Ext w W) (j : Nat) : W.frozen? ⟨g, j, none⟩ = false := Pack.free_of (he.at_ h) j
theorem set_blk {w : World} {g i : Nat} {cs : Array Value} {T : TypeId} {fr : Nat × Nat} (h : w.heap[g]? = some (.cells cs T fr)) (u : Value) : (w.setCell ⟨g, i, none⟩ u).heap[g]? = some (.cells (cs.setIfInBounds i u) T fr) := by
  simp [World.setCell, Array.getElem?_modify, h]

/-- A store into a block of another type. -/
theorem own_put {w : World} {S : Nat → Prop} {e e' : TypeId} {size n g i : Nat} {v u : Value} {xs : List Value} {cs : Array Value} {fr : Nat × Nat} (h : Own w S e size v n xs) (hb : w.heap[g]? = some (.cells cs e' fr)) (hne : e ≠ e') : Own (w.setCell ⟨g, i, none⟩ u) S e size v n xs :=
  h.keep fun k hk => Below.heap_setCell _ _ _ _ fun he => h.ne hb hne (by rw [hk, he])
/-- The first elements of a row of numbers. -/
theorem own_take {w : World} {S : Nat → Prop} {e : TypeId} {k : IntKind} {A : Option Addr} {n c : Nat} {xs : List Int} (h : Own w S e 1 (.slice A n c) n (nums k xs)) {m : Nat} (hm : m ≤ n) : Own w S e 1 (.slice A m c) m (nums k (xs.take m)) := by
  have hl : xs.length = n := by have := h.row.1; simpa [nums] using this
  refine ⟨⟨by simp [nums]; omega, ?_⟩, fun g hg => h.foot g (by rcases A with _ | ad <;> simp [Value.ownBlock] at hg ⊢ <;> exact hg)⟩
  rcases h.row.2 with ⟨h1, h2⟩ | ⟨g, cap, cur, h1, h2, h3, h4, h5, h6, h7⟩
  · cases h1
    exact .inl ⟨by congr; omega, by omega⟩
  · cases h1
    refine .inr ⟨g, c, cur, rfl, h2, h3, by omega, h5, h6, ?_⟩
    have h8 : cur.toList.take (m * 1) = (nums k xs).take m := by
      rw [← h7, List.take_take]
      congr 1
      omega
    rw [h8]
    simp [nums, List.map_take]
/-- A number is stored into a row. -/
theorem own_set {w : World} {S : Nat → Prop} {e : TypeId} {k : IntKind} {ad : Addr} {n c : Nat} {xs : List Int} (h : Own w S e 1 (.slice (some ad) n c) n (nums k xs)) {j : Nat} (hj : j < n) (u : Int) :
    Own (w.setCell (ad.add j) (.int k u)) S e 1 (.slice (some ad) n c) n (nums k (xs.set j u)) := by
  have hl : xs.length = n := by have := h.row.1; simpa [nums] using this
  refine ⟨⟨by simp [nums]; omega, ?_⟩, fun g hg => h.foot g hg⟩
  rcases h.row.2 with ⟨h1, h2⟩ | ⟨g, cap, cur, h1, h2, h3, h4, h5, h6, h7⟩
  · cases h1
  · cases h1
    have ha : (⟨g, 0, none⟩ : Addr).add j = ⟨g, j, none⟩ := by unfold Addr.add; split <;> simp_all
    rw [ha]
    refine .inr ⟨g, c, cur.setIfInBounds j (.int k u), rfl, h2, set_blk h3 _, h4, h5, by simpa using h6, ?_⟩
    rw [Array.toList_setIfInBounds, List.take_set, h7]
    simp [nums, List.map_set]
theorem own_free {w : World} {S : Nat → Prop} {e : TypeId} {size : Nat} {ad : Addr} {n c : Nat} {xs : List Value} (h : Own w S e size (.slice (some ad) n c) n xs) (j : Nat) : w.frozen? (ad.add j) = false := by
  rcases h.row.2 with ⟨h1, h2⟩ | ⟨g, cap, cur, h1, h2, h3, h4, h5, h6, h7⟩
  · cases h1
  · cases h1
    have ha : (⟨g, 0, none⟩ : Addr).add j = ⟨g, j, none⟩ := by unfold Addr.add; split <;> simp_all
    rw [ha]
    exact Pack.free_of h3 j
theorem own_block {w : World} {S : Nat → Prop} {e : TypeId} {size : Nat} {ad : Addr} {n c : Nat} {xs : List Value} (h : Own w S e size (.slice (some ad) n c) n xs) : (Value.slice (some ad) n c).ownBlock = some ad.block := rfl
/-- An object's blocks, and a row's that it has come to. -/
def With (S : Nat → Prop) (v : Value) : Nat → Prop := fun i => S i ∨ v.ownBlock = some i
theorem with_own {S S0 : Nat → Prop} {w : World} {e : TypeId} {size n : Nat} {v : Value} {xs : List Value} (ho : Own w S0 e size v n xs) : Own w (With S v) e size v n xs := ⟨ho.row, fun _ hk => .inr hk⟩
theorem with_grow {S : Nat → Prop} {b : Nat} {w : World} {e : TypeId} {size n : Nat} {v : Value} {xs : List Value} (ho : Own w (fun i => S i ∨ b ≤ i) e size v n xs) : ∀ i, With S v i → S i ∨ b ≤ i :=
  fun i h => h.elim .inl fun h => ho.foot i h
theorem with_new {S : Nat → Prop} {b : Nat} {w : World} {e : TypeId} {size n : Nat} {v : Value} {xs : List Value} (ho : Own w (fun i => b ≤ i) e size v n xs) : ∀ i, With S v i → S i ∨ b ≤ i :=
  fun i h => h.elim .inl fun h => .inr (ho.foot i h)
theorem with_lt {S S0 : Nat → Prop} {w0 w : World} {e : TypeId} {size n : Nat} {v : Value} {xs : List Value} (ho : Own w S0 e size v n xs) (hS : ∀ i, S i → i < w0.heap.size) (hw : w0.heap.size ≤ w.heap.size) : ∀ i, With S v i → i < w.heap.size :=
  fun i h => h.elim (fun h => Nat.lt_of_lt_of_le (hS i h) hw) fun h => (ho.row.lt i h).2

/-- S, and one block more. -/
def And1 (S : Nat → Prop) (g : Nat) : Nat → Prop := fun i => S i ∨ i = g
theorem Step.and1 {S S' : Nat → Prop} {a b : World} (h : Step S S' a b) (g : Nat) : Step (And1 S g) (And1 S' g) a b :=
  ⟨h.chg.mono fun _ _ h => .inl h, fun i hi => hi.elim (fun h1 => (h.grow i h1).imp .inl id) fun h1 => .inl (.inr h1)⟩
theorem Step.not {S S' : Nat → Prop} {a b : World} (h : Step S S' a b) {g : Nat} (hg : ¬ S g) (hlt : g < a.heap.size) : ¬ S' g := fun hs => (h.grow g hs).elim hg fun h1 => by omega
/-- All blocks of S are newer than w0. -/
def Fresh (w0 : World) (S : Nat → Prop) : Prop := ∀ i, S i → w0.heap.size ≤ i
theorem fresh_step {w0 a b : World} {S S' : Nat → Prop} (he : Ext w0 a) (hS : Fresh w0 S) (hs : Step S S' a b) : Ext w0 b ∧ Fresh w0 S' :=
  ⟨he.chg hs.chg hS, fun i hi => (hs.grow i hi).elim (hS i) fun h => Nat.le_trans he.size h⟩

set_option maxHeartbeats 400000 in
theorem clone8 (A : Option Addr) (n c : Nat) (xs : List Int) (w : World) (hr : Rd w .u8 A n xs) (hn : n ≤ 140737488351232) :
    Calls Try.prog 105 #[.slice A n c] w fun e w' => Ext w w' ∧ ∃ A' c', e = .returned (.slice A' n c') ∧ New w w' 5 1 A' n c' (nums .u8 xs) := by
  have hq := fun (W : World) (a : Option Addr) (n c n' c' : Nat) => Lib.run_eql_slice_nil (P := Try.prog) W 55 5 a n c n' c' Try.underlying55
  rcases A with _ | ad
  · have h0 : n = 0 := by
      rcases Nat.eq_zero_or_pos n with h0 | h0
      · exact h0
      · obtain ⟨ad, e, _⟩ := hr.cell h0
        cases e
    subst h0
    obtain rfl : xs = [] := List.eq_nil_of_length_eq_zero hr.len
    go_enter Try.func105, Try.ntmps105
    go_wp2_with fail
    go_ret
    exact ⟨Ext.refl _, none, 0, rfl, Own.nil _ _ _ _⟩
  · go_enter Try.func105, Try.ntmps105
    go_wp2_with (at_builtin; refine wpList_clone _ rfl _ _ _ rfl 5 .u8 1 Try.underlying55 Pack.info_u8 (by decide) rfl (some ad) (n) (c) (xs) rfl hr ?c2 ?_)
    case c2 => omega
    intro A2 c2 w2 ho2 he2
    go_wp2_with fail
    go_ret
    exact ⟨he2, A2, c2, rfl, ho2⟩
end Go.Proofs.Ytipmkddcdnbihaa.Step
