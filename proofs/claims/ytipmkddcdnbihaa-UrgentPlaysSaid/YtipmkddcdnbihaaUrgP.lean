/- Plain facts about a heap of jobs: no program in sight. -/
import Derived.WalkKit
namespace Go.Proofs.Ytipmkddcdnbihaa.UrgP
/-- A job: its stripe's object and number, and how many of its shards are whole. -/
structure Job where
  o : Int
  s : Int
  g : Int
deriving DecidableEq
abbrev key (j : Job) : Int × Int := (j.o, j.s)
def ahead (a b : Job) : Bool := if a.g = b.g then (if a.o = b.o then decide (a.s < b.s) else decide (a.o < b.o)) else decide (a.g < b.g)
theorem ahead_iff (a b : Job) : ahead a b = true ↔ a.g < b.g ∨ (a.g = b.g ∧ (a.o < b.o ∨ (a.o = b.o ∧ a.s < b.s))) := by
  unfold ahead
  by_cases h1 : a.g = b.g
  · by_cases h2 : a.o = b.o
    · rw [if_pos h1, if_pos h2, decide_eq_true_eq]; omega
    · rw [if_pos h1, if_neg h2, decide_eq_true_eq]; omega
  · rw [if_neg h1, decide_eq_true_eq]; omega
theorem not_ahead (a b : Job) : ahead a b = false ↔ ¬ (a.g < b.g ∨ (a.g = b.g ∧ (a.o < b.o ∨ (a.o = b.o ∧ a.s < b.s)))) := by
  rw [← ahead_iff]
  simp
theorem irrefl (a : Job) : ahead a a = false := by rw [not_ahead]; omega
theorem trans {a b c : Job} (h1 : ahead a b = true) (h2 : ahead b c = true) : ahead a c = true := by rw [ahead_iff] at *; omega
theorem ntrans {a b c : Job} (h1 : ahead a b = false) (h2 : ahead b c = false) : ahead a c = false := by rw [not_ahead] at *; omega
theorem asym {a b : Job} (h1 : ahead a b = true) : ahead b a = false := by rw [not_ahead]; rw [ahead_iff] at h1; omega
theorem total {a b : Job} (h1 : ahead a b = false) (h2 : ahead b a = false) : a = b := by
  rw [not_ahead] at *
  obtain ⟨o, s, g⟩ := a
  obtain ⟨o', s', g'⟩ := b
  dsimp only at h1 h2
  obtain rfl : o = o' := by omega
  obtain rfl : s = s' := by omega
  obtain rfl : g = g' := by omega
  rfl
abbrev z : Job := ⟨0, 0, 0⟩
/-- The job at a place. -/
def at_ (l : List Job) (i : Nat) : Job := l.getD i z
theorem at_get {l : List Job} {i : Nat} (h : i < l.length) : l[i]? = some (at_ l i) := by simp [at_, List.getD_eq_getElem?_getD, h]
theorem at_eq {l : List Job} {i : Nat} {j : Job} (h : l[i]? = some j) : at_ l i = j := by simp [at_, List.getD_eq_getElem?_getD, h]
theorem at_mem {l : List Job} {i : Nat} (h : i < l.length) : at_ l i ∈ l := List.mem_of_getElem? (at_get h)
theorem at_set {l : List Job} {i k : Nat} {j : Job} (h : k < l.length) : at_ (l.set i j) k = if i = k then j else at_ l k := by
  simp only [at_, List.getD_eq_getElem?_getD, List.getElem?_set]
  by_cases hik : i = k
  · subst hik; simp [h]
  · simp [hik]
/-- Two places exchanged. -/
def swp (l : List Job) (i k : Nat) : List Job := (l.set i (at_ l k)).set k (at_ l i)
theorem swp_len (l : List Job) (i k : Nat) : (swp l i k).length = l.length := by simp [swp]
theorem swp_at {l : List Job} {i k : Nat} (_hi : i < l.length) (_hk : k < l.length) {c : Nat} (hc : c < l.length) : at_ (swp l i k) c = if c = k then at_ l i else if c = i then at_ l k else at_ l c := by
  unfold swp
  rw [at_set (by simpa using hc), at_set hc]
  by_cases h1 : c = k
  · rw [if_pos h1.symm, if_pos h1]
  · rw [if_neg (Ne.symm h1), if_neg h1]
    by_cases h2 : c = i
    · rw [if_pos h2.symm, if_pos h2]
    · rw [if_neg (Ne.symm h2), if_neg h2]
theorem swp_perm {l : List Job} {i k : Nat} (hi : i < l.length) (hk : k < l.length) : (swp l i k).Perm l := by
  unfold swp at_
  rw [List.getD_eq_getElem?_getD, List.getD_eq_getElem?_getD, List.getElem?_eq_getElem hi, List.getElem?_eq_getElem hk]
  exact List.set_set_perm hi hk
/-- One's parent. -/
abbrev par (c : Nat) : Nat := (c - 1) / 2
def Edge (l : List Job) (c : Nat) : Prop := ahead (at_ l c) (at_ l (par c)) = false
def Heap (l : List Job) : Prop := ∀ c, 0 < c → c < l.length → Edge l c
structure G (l : List Job) (i : Nat) : Prop where
  e : ∀ c, 0 < c → c < l.length → c ≠ i → par c ≠ i → Edge l c
  k : ∀ c, 0 < c → c < l.length → par c = i → 0 < i → ahead (at_ l c) (at_ l (par i)) = false
structure Dn (l : List Job) (i : Nat) : Prop where
  e : ∀ c, 0 < c → c < l.length → par c ≠ i → Edge l c
  k : ∀ c, 0 < c → c < l.length → par c = i → 0 < i → ahead (at_ l c) (at_ l (par i)) = false
theorem G.stop {l : List Job} {i : Nat} (h : G l i) (h2 : 0 < i → Edge l i) : Dn l i :=
  ⟨fun c h0 h1 h3 => by
    by_cases hc : c = i
    · subst hc; exact h2 h0
    · exact h.e c h0 h1 hc h3, h.k⟩
theorem G.step {l : List Job} {i : Nat} (h : G l i) (hi : 0 < i) (hn : i < l.length) (ha : ahead (at_ l i) (at_ l (par i)) = true) : G (swp l i (par i)) (par i) := by
  have hp : par i < l.length := by show (i - 1) / 2 < _; omega
  have hpi : par i ≠ i := by show (i - 1) / 2 ≠ i; omega
  refine ⟨fun c h0 h1 h2 h3 => ?_, fun c h0 h1 h2 h3 => ?_⟩
  · rw [swp_len] at h1
    have hpc : par c < l.length := by show (c - 1) / 2 < _; omega
    unfold Edge
    rw [swp_at hn hp h1, swp_at hn hp hpc, if_neg h2, if_neg h3]
    have hci : c ≠ i := fun k => by subst k; exact h3 rfl
    rw [if_neg hci]
    by_cases h4 : par c = i
    · rw [if_pos h4]
      exact h.k c h0 h1 h4 hi
    · rw [if_neg h4]
      exact h.e c h0 h1 hci h4
  · rw [swp_len] at h1
    have hpp : par (par i) < l.length := by show ((i - 1) / 2 - 1) / 2 < _; omega
    have hm2 : (c - 1) / 2 = (i - 1) / 2 := h2
    have h3' : 0 < (i - 1) / 2 := h3
    have n1 : par (par i) ≠ par i := by show ((i - 1) / 2 - 1) / 2 ≠ (i - 1) / 2; omega
    have n2 : par (par i) ≠ i := by show ((i - 1) / 2 - 1) / 2 ≠ i; omega
    have n3 : c ≠ par i := fun k => by
      rw [k] at h2
      exact n1 h2
    have ep : ahead (at_ l (par i)) (at_ l (par (par i))) = false := h.e (par i) h3 hp hpi n2
    rw [swp_at hn hp h1, swp_at hn hp hpp, if_neg n1, if_neg n2, if_neg n3]
    by_cases h4 : c = i
    · rw [if_pos h4]; exact ep
    · rw [if_neg h4]
      refine ntrans ?_ ep
      have := h.e c h0 h1 h4 (by rw [h2]; exact hpi)
      unfold Edge at this
      rw [h2] at this
      exact this
theorem Dn.stop {l : List Job} {i : Nat} (h : Dn l i) (h2 : ∀ c, 0 < c → c < l.length → par c = i → Edge l c) : Heap l := fun c h0 h1 => by
  by_cases h3 : par c = i
  · exact h2 c h0 h1 h3
  · exact h.e c h0 h1 h3
theorem Dn.step {l : List Job} {i m : Nat} (h : Dn l i) (hm : m < l.length) (hm0 : 0 < m) (hpm : par m = i) (ha : ahead (at_ l m) (at_ l i) = true) (hb : ∀ c, 0 < c → c < l.length → par c = i → ahead (at_ l c) (at_ l m) = false) : Dn (swp l i m) m := by
  have him : i < m := by subst hpm; show (m - 1) / 2 < m; omega
  have hi : i < l.length := by omega
  refine ⟨fun c h0 h1 h2 => ?_, fun c h0 h1 h2 _ => ?_⟩
  · rw [swp_len] at h1
    have hpc : par c < l.length := by show (c - 1) / 2 < _; omega
    unfold Edge
    rw [swp_at hi hm h1, swp_at hi hm hpc, if_neg h2]
    by_cases h3 : c = m
    · subst h3
      rw [if_pos rfl, if_pos hpm]
      exact asym ha
    · rw [if_neg h3]
      by_cases h4 : c = i
      · subst h4
        have n1 : par c ≠ c := by show (c - 1) / 2 ≠ c; omega
        rw [if_pos rfl, if_neg n1]
        exact h.k m hm0 hm hpm h0
      · rw [if_neg h4]
        by_cases h5 : par c = i
        · rw [if_pos h5]
          exact hb c h0 h1 h5
        · rw [if_neg h5]
          exact h.e c h0 h1 h5
  · rw [swp_len] at h1
    have n1 : c ≠ m := fun k => by subst k; have : (c - 1) / 2 = c := h2; omega
    have n2 : c ≠ i := fun k => by have : (c - 1) / 2 = m := h2; omega
    rw [swp_at hi hm h1, swp_at hi hm (by rw [hpm]; exact hi), if_neg n1, if_neg n2, hpm, if_neg (by omega), if_pos rfl]
    have := h.e c h0 h1 (by rw [h2]; omega)
    unfold Edge at this
    rw [h2] at this
    exact this
theorem Heap.min {l : List Job} (h : Heap l) : ∀ c, c < l.length → ahead (at_ l c) (at_ l 0) = false := by
  intro c
  induction c using Nat.strongRecOn with
  | _ c ih =>
    intro hc
    by_cases h0 : c = 0
    · subst h0; exact irrefl _
    · exact ntrans (h c (by omega) hc) (ih (par c) (by show (c - 1) / 2 < c; omega) (by show (c - 1) / 2 < _; omega))
theorem Heap.set {l : List Job} (h : Heap l) (i : Nat) (j : Job) : G (l.set i j) i := by
  refine ⟨fun c h0 h1 h2 h3 => ?_, fun c h0 h1 h2 h3 => ?_⟩
  · rw [List.length_set] at h1
    unfold Edge
    rw [at_set h1, at_set (by show (c - 1) / 2 < _; omega), if_neg (Ne.symm h2), if_neg (Ne.symm h3)]
    exact h c h0 h1
  · rw [List.length_set] at h1
    have h2' : (c - 1) / 2 = i := h2
    rw [at_set h1, at_set (by show (i - 1) / 2 < _; omega), if_neg (by omega), if_neg (by show ¬ i = (i - 1) / 2; omega)]
    have e1 := h c h0 h1
    unfold Edge at e1
    rw [h2] at e1
    exact ntrans e1 (h i h3 (by omega))
theorem at_take {l : List Job} {n c : Nat} (h : c < n) : at_ (l.take n) c = at_ l c := by
  simp [at_, List.getD_eq_getElem?_getD, h]
theorem G.take {l : List Job} {i n : Nat} (h : G l i) (hn : n ≤ l.length) : G (l.take n) i := by
  have hl : (l.take n).length = n := by rw [List.length_take]; omega
  refine ⟨fun c h0 h1 h2 h3 => ?_, fun c h0 h1 h2 h3 => ?_⟩
  · rw [hl] at h1
    unfold Edge
    rw [at_take h1, at_take (by show (c - 1) / 2 < _; omega)]
    exact h.e c h0 (by omega) h2 h3
  · rw [hl] at h1
    have h2' : (c - 1) / 2 = i := h2
    rw [at_take h1, at_take (by show (i - 1) / 2 < _; omega)]
    exact h.k c h0 (by omega) h2 h3
theorem at_app {l : List Job} {j : Job} {c : Nat} (h : c < l.length) : at_ (l ++ [j]) c = at_ l c := by
  simp [at_, List.getD_eq_getElem?_getD, List.getElem?_append_left h]
theorem Heap.app {l : List Job} (h : Heap l) (j : Job) : G (l ++ [j]) l.length := by
  refine ⟨fun c h0 h1 h2 h3 => ?_, fun c h0 h1 h2 h3 => ?_⟩
  · have h1 : c < l.length := by simp at h1; omega
    unfold Edge
    rw [at_app h1, at_app (by show (c - 1) / 2 < _; omega)]
    exact h c h0 h1
  · have h1 : c < l.length + 1 := by simpa using h1
    have h2' : (c - 1) / 2 = l.length := h2
    omega
theorem heap_nil : Heap [] := fun c _ h => by simp at h
/-! ### In order -/
def Sorted (l : List Job) : Prop := l.Pairwise fun a b => ahead a b = true
theorem sorted_eq : ∀ {l m : List Job}, Sorted l → Sorted m → l.Perm m → l = m
  | [], m, _, _, hp => hp.nil_eq
  | a :: l, [], _, _, hp => by have := hp.length_eq; simp at this
  | a :: l, b :: m, hl, hm, hp => by
    have hab : a = b := by
      have h1 : a ∈ b :: m := hp.mem_iff.1 List.mem_cons_self
      have h2 : b ∈ a :: l := hp.mem_iff.2 List.mem_cons_self
      rcases List.mem_cons.1 h1 with h1 | h1
      · exact h1
      · rcases List.mem_cons.1 h2 with h2 | h2
        · exact h2.symm
        · have k1 := (List.pairwise_cons.1 hm).1 a h1
          have k2 := (List.pairwise_cons.1 hl).1 b h2
          have := asym k1
          rw [k2] at this
          cases this
    subst hab
    rw [sorted_eq (List.pairwise_cons.1 hl).2 (List.pairwise_cons.1 hm).2 ((List.perm_cons a).1 hp)]
end Go.Proofs.Ytipmkddcdnbihaa.UrgP
