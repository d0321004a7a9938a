/- Plain facts: the least of pairs; lists in order. No program in sight. -/
namespace Go.Proofs.Ytaohnialheccdaa.SiteN
/-- The least of all pairs that Q lets; -1: there is none. -/
def MinOf (Q : Nat → Nat → Prop) (d : Nat → Nat → Int) (b : Int) : Prop := (b = -1 ∧ ∀ i k, ¬ Q i k) ∨ (0 ≤ b ∧ (∃ i k, Q i k ∧ d i k = b) ∧ ∀ i k, Q i k → b ≤ d i k)
theorem MinOf.none {Q : Nat → Nat → Prop} {d : Nat → Nat → Int} (h : ∀ i k, ¬ Q i k) : MinOf Q d (-1) := .inl ⟨rfl, h⟩
theorem MinOf.iff {Q Q' : Nat → Nat → Prop} {d : Nat → Nat → Int} {b : Int} (h : MinOf Q d b) (hq : ∀ i k, Q' i k ↔ Q i k) : MinOf Q' d b := by
  rcases h with ⟨h1, h2⟩ | ⟨h1, ⟨i, k, h2, h3⟩, h4⟩
  · exact .inl ⟨h1, fun i k h => h2 i k ((hq i k).1 h)⟩
  · exact .inr ⟨h1, ⟨i, k, (hq i k).2 h2, h3⟩, fun i k h => h4 i k ((hq i k).1 h)⟩
theorem MinOf.take {Q Q' : Nat → Nat → Prop} {d : Nat → Nat → Int} {b : Int} (h : MinOf Q d b) {i k : Nat} (h0 : 0 ≤ d i k) (hq : ∀ i' k', Q' i' k' ↔ Q i' k' ∨ (i' = i ∧ k' = k)) (hb : b < 0 ∨ d i k < b) : MinOf Q' d (d i k) := by
  refine .inr ⟨h0, ⟨i, k, (hq i k).2 (.inr ⟨rfl, rfl⟩), rfl⟩, fun i' k' h' => ?_⟩
  rcases (hq i' k').1 h' with h' | ⟨rfl, rfl⟩
  · rcases h with ⟨_, h2⟩ | ⟨h1, _, h4⟩
    · exact absurd h' (h2 _ _)
    · have := h4 _ _ h'
      rcases hb with hb | hb <;> omega
  · exact Int.le_refl _
theorem MinOf.keep {Q Q' : Nat → Nat → Prop} {d : Nat → Nat → Int} {b : Int} (h : MinOf Q d b) {i k : Nat} (hq : ∀ i' k', Q' i' k' ↔ Q i' k' ∨ (i' = i ∧ k' = k)) (hb : 0 ≤ b ∧ b ≤ d i k) : MinOf Q' d b := by
  rcases h with ⟨h1, _⟩ | ⟨h1, ⟨x, y, h2, h3⟩, h4⟩
  · omega
  · refine .inr ⟨h1, ⟨x, y, (hq x y).2 (.inl h2), h3⟩, fun i' k' h' => ?_⟩
    rcases (hq i' k').1 h' with h' | ⟨rfl, rfl⟩
    · exact h4 _ _ h'
    · exact hb.2
theorem MinOf.unique {Q Q' : Nat → Nat → Prop} {d d' : Nat → Nat → Int} {b b' : Int} (h : MinOf Q d b) (h' : MinOf Q' d' b') (hq : ∀ i k, Q' i k ↔ Q k i) (hd : ∀ i k, d' i k = d k i) : b = b' := by
  rcases h with ⟨h1, h2⟩ | ⟨h1, ⟨i, k, h2, h3⟩, h4⟩ <;> rcases h' with ⟨k1, k2⟩ | ⟨k1, ⟨x, y, k2, k3⟩, k4⟩
  · omega
  · exact absurd ((hq _ _).1 k2) (h2 _ _)
  · exact absurd ((hq k i).2 h2) (k2 _ _)
  · have a1 := h4 _ _ ((hq _ _).1 k2)
    have a2 := k4 k i ((hq k i).2 h2)
    rw [← hd, k3] at a1
    rw [hd, h3] at a2
    omega
/-- Ahead: nearer, or as near and of a lesser place. -/
def lt (d : Nat → Int) (a b : Nat) : Prop := d a < d b ∨ (d a = d b ∧ a < b)
theorem lt_irrefl {d : Nat → Int} {a : Nat} : ¬ lt d a a := by unfold lt; omega
theorem lt_asymm {d : Nat → Int} {a b : Nat} (h : lt d a b) (k : lt d b a) : False := by unfold lt at h k; omega
theorem sorted_unique {d : Nat → Int} : ∀ (l m : List Nat), l.Pairwise (lt d) → m.Pairwise (lt d) → (∀ x, x ∈ l ↔ x ∈ m) → l = m
  | [], [], _, _, _ => rfl
  | [], y :: m, _, _, h => by have := (h y).2 List.mem_cons_self; cases this
  | x :: l, [], _, _, h => by have := (h x).1 List.mem_cons_self; cases this
  | x :: l, y :: m, hl, hm, h => by
    rw [List.pairwise_cons] at hl hm
    have hxy : x = y := by
      have h1 := (h x).1 List.mem_cons_self
      have h2 := (h y).2 List.mem_cons_self
      rcases List.mem_cons.1 h1 with h1 | h1
      · exact h1
      · rcases List.mem_cons.1 h2 with h2 | h2
        · exact h2.symm
        · exact (lt_asymm (hm.1 x h1) (hl.1 y h2)).elim
    subst hxy
    congr 1
    refine sorted_unique l m hl.2 hm.2 fun z => ⟨fun hz => ?_, fun hz => ?_⟩
    · rcases List.mem_cons.1 ((h z).1 (List.mem_cons_of_mem _ hz)) with rfl | h1
      · exact (lt_irrefl (hl.1 z hz)).elim
      · exact h1
    · rcases List.mem_cons.1 ((h z).2 (List.mem_cons_of_mem _ hz)) with rfl | h1
      · exact (lt_irrefl (hm.1 z hz)).elim
      · exact h1
theorem pairwise_get {d : Nat → Int} {l : List Nat} (h : l.Pairwise (lt d)) {i j : Nat} (hij : i < j) (hj : j < l.length) : lt d (l[i]'(by omega)) l[j] := List.pairwise_iff_getElem.1 h i j (by omega) hj hij
/-- A place put where it belongs. -/
theorem insert_sorted {d : Nat → Int} {l : List Nat} {i : Nat} (h : l.Pairwise (lt d)) (hm : ∀ x ∈ l, x < i) {at_ : Nat} (hat : at_ ≤ l.length) (h1 : ∀ (j : Nat) (hj : j < l.length), at_ ≤ j → d i < d l[j]) (h2 : at_ = 0 ∨ ∃ hj : at_ - 1 < l.length, d l[at_ - 1] ≤ d i) : (l.take at_ ++ i :: l.drop at_).Pairwise (lt d) := by
  rw [List.pairwise_append]
  refine ⟨h.sublist (List.take_sublist _ _), ?_, ?_⟩
  · rw [List.pairwise_cons]
    refine ⟨fun x hx => ?_, h.sublist (List.drop_sublist _ _)⟩
    obtain ⟨j, hj, rfl⟩ := List.getElem_of_mem hx
    rw [List.getElem_drop]
    exact .inl (h1 _ _ (by omega))
  · intro x hx y hy
    obtain ⟨j, hj, rfl⟩ := List.getElem_of_mem hx
    have hj' : j < at_ := by rw [List.length_take] at hj; omega
    rw [List.getElem_take]
    have hle : d (l[j]'(by omega)) ≤ d i := by
      rcases h2 with h2 | ⟨hk, h2⟩
      · omega
      · rcases Nat.lt_or_ge j (at_ - 1) with h3 | h3
        · have := pairwise_get h h3 hk
          unfold lt at this
          omega
        · have : j = at_ - 1 := by omega
          subst this
          exact h2
    rcases List.mem_cons.1 hy with rfl | hy
    · have := hm _ (List.getElem_mem (l := l) (n := j) (by omega))
      unfold lt
      omega
    · obtain ⟨k, hk, rfl⟩ := List.getElem_of_mem hy
      rw [List.getElem_drop]
      rw [List.length_drop] at hk
      exact pairwise_get h (by omega) (by omega)
theorem mem_insert {l : List Nat} {i at_ x : Nat} : x ∈ l.take at_ ++ i :: l.drop at_ ↔ x ∈ l ∨ x = i := by
  rw [List.mem_append, List.mem_cons]
  constructor
  · rintro (h | h | h)
    · exact .inl (List.mem_of_mem_take h)
    · exact .inr h
    · exact .inl (List.mem_of_mem_drop h)
  · rintro (h | h)
    · rw [← List.take_append_drop at_ l] at h
      rcases List.mem_append.1 h with h | h
      · exact .inl h
      · exact .inr (.inr h)
    · exact .inr (.inl h)
theorem snoc_sorted {d : Nat → Int} {l : List Nat} {b : Nat} (h : l.Pairwise (lt d)) (hb : ∀ x ∈ l, lt d x b) : (l ++ [b]).Pairwise (lt d) := by
  rw [List.pairwise_append]
  exact ⟨h, List.pairwise_singleton _ _, fun x hx y hy => by rw [List.mem_singleton.1 hy]; exact hb x hx⟩
theorem all_le : ∀ (n : Nat) (l : List Nat), (∀ y, y < n → y ∈ l) → n ≤ l.length
  | 0, _, _ => Nat.zero_le _
  | n + 1, l, h => by
    have hn := h n (Nat.lt_succ_self n)
    have := all_le n (l.erase n) fun y hy => (List.mem_erase_of_ne (by omega)).2 (h y (by omega))
    rw [List.length_erase_of_mem hn] at this
    have hp : 0 < l.length := List.length_pos_of_mem hn
    omega
theorem nodup_le : ∀ (n : Nat) (l : List Nat), l.Nodup → (∀ x ∈ l, x < n) → l.length ≤ n
  | 0, l, _, h => by
    cases l with
    | nil => exact Nat.le_refl _
    | cons x l => have := h x List.mem_cons_self; omega
  | n + 1, l, hd, h => by
    have := nodup_le n (l.erase n) (hd.erase n) fun x hx => by
      have h1 := (hd.mem_erase_iff).1 hx
      have := h x h1.2
      have := h1.1
      omega
    have hl : l.length ≤ (l.erase n).length + 1 := by rw [List.length_erase]; split <;> omega
    omega
theorem sorted_nodup {d : Nat → Int} {l : List Nat} (h : l.Pairwise (lt d)) : l.Nodup := h.imp fun {a b} hab e => by subst e; exact lt_irrefl hab
/-- The first of all, so far. -/
def Sel (d : Nat → Int) (n m : Nat) (l : List Nat) : Prop := l.Pairwise (lt d) ∧ (∀ x ∈ l, x < n) ∧ l.length = m ∧ ∀ x ∈ l, ∀ y, y < n → y ∉ l → lt d x y
theorem Sel.nil (d : Nat → Int) (n : Nat) : Sel d n 0 [] := ⟨List.Pairwise.nil, fun x h => (by cases h), rfl, fun x h => by cases h⟩
/-- The best of the first k that are not in the list. -/
def Best (d : Nat → Int) (l : List Nat) (k : Nat) (b : Int) : Prop := (b = -1 ∧ ∀ j, j < k → j ∈ l) ∨ ∃ q : Nat, b = q ∧ q < k ∧ q ∉ l ∧ ∀ j, j < k → j ∉ l → j = q ∨ lt d q j
theorem Best.nil (d : Nat → Int) (l : List Nat) : Best d l 0 (-1) := .inl ⟨rfl, fun j h => by omega⟩
theorem Best.done {d : Nat → Int} {l : List Nat} {k : Nat} {b : Int} (h : Best d l k b) (hk : k ∈ l) : Best d l (k + 1) b := by
  rcases h with ⟨h1, h2⟩ | ⟨q, h1, h2, h3, h4⟩
  · refine .inl ⟨h1, fun j hj => ?_⟩
    rcases Nat.lt_or_ge j k with h | h
    · exact h2 j h
    · obtain rfl : j = k := by omega
      exact hk
  · refine .inr ⟨q, h1, by omega, h3, fun j hj hn => ?_⟩
    rcases Nat.lt_or_ge j k with h | h
    · exact h4 j h hn
    · obtain rfl : j = k := by omega
      exact absurd hk hn
theorem Best.first {d : Nat → Int} {l : List Nat} {k : Nat} (h : Best d l k (-1)) (hk : k ∉ l) : Best d l (k + 1) k := by
  rcases h with ⟨_, h2⟩ | ⟨q, h1, _⟩
  · refine .inr ⟨k, rfl, by omega, hk, fun j hj hn => ?_⟩
    rcases Nat.lt_or_ge j k with h | h
    · exact absurd (h2 j h) hn
    · exact .inl (by omega)
  · omega
theorem Best.take {d : Nat → Int} {l : List Nat} {k q : Nat} (h : Best d l k q) (hk : k ∉ l) (hd : d k < d q) : Best d l (k + 1) k := by
  rcases h with ⟨h1, _⟩ | ⟨q', h1, h2, h3, h4⟩
  · omega
  · obtain rfl : q = q' := by omega
    refine .inr ⟨k, rfl, by omega, hk, fun j hj hn => ?_⟩
    rcases Nat.lt_or_ge j k with h | h
    · right
      rcases h4 j h hn with rfl | h5
      · exact .inl hd
      · unfold lt at h5 ⊢; omega
    · exact .inl (by omega)
theorem Best.keep {d : Nat → Int} {l : List Nat} {k q : Nat} (h : Best d l k q) (hd : d q ≤ d k) : Best d l (k + 1) q := by
  rcases h with ⟨h1, _⟩ | ⟨q', h1, h2, h3, h4⟩
  · omega
  · obtain rfl : q = q' := by omega
    refine .inr ⟨q, rfl, by omega, h3, fun j hj hn => ?_⟩
    rcases Nat.lt_or_ge j k with h | h
    · exact h4 j h hn
    · obtain rfl : j = k := by omega
      right
      unfold lt
      omega
theorem Sel.more {d : Nat → Int} {n m : Nat} {l : List Nat} {b : Int} (h : Sel d n m l) (hm : m < n) (hb : Best d l n b) : ∃ q : Nat, b = q ∧ q < n ∧ q ∉ l ∧ Sel d n (m + 1) (l ++ [q]) := by
  obtain ⟨h1, h2, h3, h4⟩ := h
  rcases hb with ⟨_, k2⟩ | ⟨q, k1, k2, k3, k4⟩
  · have := all_le n l k2
    omega
  · refine ⟨q, k1, k2, k3, snoc_sorted h1 fun x hx => h4 x hx q k2 k3, fun x hx => ?_, by simp [h3], fun x hx y hy hn => ?_⟩
    · rcases List.mem_append.1 hx with h | h
      · exact h2 x h
      · rw [List.mem_singleton.1 h]; exact k2
    · have hyl : y ∉ l := fun h => hn (List.mem_append_left _ h)
      have hyq : y ≠ q := fun h => hn (by rw [h]; simp)
      rcases List.mem_append.1 hx with h | h
      · exact h4 x h y hy hyl
      · rw [List.mem_singleton.1 h]
        exact (k4 y hy hyl).resolve_left hyq
theorem Sel.all {d : Nat → Int} {n : Nat} {l : List Nat} (h : Sel d n n l) : l.Pairwise (lt d) ∧ (∀ x, x ∈ l ↔ x < n) ∧ l.length = n := by
  obtain ⟨h1, h2, h3, h4⟩ := h
  refine ⟨h1, fun x => ⟨h2 x, fun hx => ?_⟩, h3⟩
  by_cases hm : x ∈ l
  · exact hm
  · have hs : (l ++ [x]).Pairwise (lt d) := snoc_sorted h1 fun y hy => h4 y hy x hx hm
    have := nodup_le n (l ++ [x]) (sorted_nodup hs) fun y hy => by
      rcases List.mem_append.1 hy with h | h
      · exact h2 y h
      · rw [List.mem_singleton.1 h]; exact hx
    simp at this
    omega
end Go.Proofs.Ytaohnialheccdaa.SiteN
