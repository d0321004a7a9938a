/- Rows of whatever cells that an object owns; the blocks of an object behind a call. No program in sight. -/
import Derived.Test.YtipmkddcdnbihaaStep
namespace Go.Proofs.Ytipmkddcdnbihaa.Vec
open Go.RowKit Base Step

/-- Two lists alike, place by place. -/
structure Each {α β : Type} (R : α → β → Prop) (l : List α) (m : List β) : Prop where
  len : l.length = m.length
  all : ∀ (i : Nat) (x : α) (y : β), l[i]? = some x → m[i]? = some y → R x y
theorem Each.nil {α β : Type} (R : α → β → Prop) : Each R [] [] := ⟨rfl, fun i x y h => by cases h⟩
theorem Each.at_ {α β : Type} {R : α → β → Prop} {l : List α} {m : List β} (h : Each R l m) {i : Nat} {y : β} (hy : m[i]? = some y) : ∃ x, l[i]? = some x ∧ R x y := by
  have hi : i < m.length := (List.getElem?_eq_some_iff.1 hy).1
  have hl : l[i]? = some (l[i]'(by rw [h.len]; exact hi)) := List.getElem?_eq_getElem _
  exact ⟨_, hl, h.all i _ _ hl hy⟩
theorem Each.at1 {α β : Type} {R : α → β → Prop} {l : List α} {m : List β} (h : Each R l m) {i : Nat} {x : α} (hx : l[i]? = some x) : ∃ y, m[i]? = some y ∧ R x y := by
  have hi : i < l.length := (List.getElem?_eq_some_iff.1 hx).1
  have hl : m[i]? = some (m[i]'(by rw [← h.len]; exact hi)) := List.getElem?_eq_getElem _
  exact ⟨_, hl, h.all i _ _ hx hl⟩
theorem Each.imp {α β : Type} {R R' : α → β → Prop} {l : List α} {m : List β} (h : Each R l m) (hi : ∀ x y, R x y → R' x y) : Each R' l m := ⟨h.len, fun i x y hx hy => hi x y (h.all i x y hx hy)⟩
theorem Each.set {α β : Type} {R : α → β → Prop} {l : List α} {m : List β} (h : Each R l m) (j : Nat) {x : α} {y : β} (hr : R x y) : Each R (l.set j x) (m.set j y) :=
  ⟨by simp [h.len], fun i u v hu hv => by
    by_cases hij : j = i
    · subst hij
      have h1 : j < l.length := by have := (List.getElem?_eq_some_iff.1 hu).1; simpa using this
      rw [List.getElem?_set_self h1] at hu
      rw [List.getElem?_set_self (by rw [← h.len]; exact h1)] at hv
      cases hu
      cases hv
      exact hr
    · rw [List.getElem?_set_ne hij] at hu hv
      exact h.all i u v hu hv⟩
theorem Each.snoc {α β : Type} {R : α → β → Prop} {l : List α} {m : List β} (h : Each R l m) {x : α} {y : β} (hr : R x y) : Each R (l ++ [x]) (m ++ [y]) :=
  ⟨by simp [h.len], fun i u v hu hv => by
    by_cases hi : i < l.length
    · rw [List.getElem?_append_left hi] at hu
      rw [List.getElem?_append_left (by rw [← h.len]; exact hi)] at hv
      exact h.all i u v hu hv
    · rw [List.getElem?_append_right (by omega)] at hu
      rw [List.getElem?_append_right (by rw [← h.len]; omega), ← h.len] at hv
      have : i - l.length = 0 := by
        have := (List.getElem?_eq_some_iff.1 hu).1
        simpa using this
      rw [this] at hu hv
      simp at hu hv
      subst hu
      subst hv
      exact hr⟩
theorem Each.take {α β : Type} {R : α → β → Prop} {l : List α} {m : List β} (h : Each R l m) (n : Nat) : Each R (l.take n) (m.take n) :=
  ⟨by simp [h.len], fun i x y hx hy => by
    have h1 := (List.getElem?_eq_some_iff.1 hx).1
    rw [List.length_take] at h1
    rw [List.getElem?_take_of_lt (by omega)] at hx hy
    exact h.all i x y hx hy⟩
theorem Each.rep {α β : Type} {R : α → β → Prop} (n : Nat) {x : α} {y : β} (hr : R x y) : Each R (List.replicate n x) (List.replicate n y) :=
  ⟨by simp, fun i u v hu hv => by
    have h1 := List.mem_of_getElem? hu
    have h2 := List.mem_of_getElem? hv
    rw [List.eq_of_mem_replicate h1, List.eq_of_mem_replicate h2]
    exact hr⟩

/-- Bytes (elements of type e) that lie in blocks of S. -/
def Bytes (e : TypeId) (w : World) (S : Nat → Prop) (v : Value) (xs : List Int) : Prop := ∃ A n c, v = .slice A n c ∧ Own w S e 1 (.slice A n c) n (nums .u8 xs) ∧ ∀ x ∈ xs, (Lit.int .u8 x).wf = true
theorem Bytes.nil (e : TypeId) (w : World) (S : Nat → Prop) : Bytes e w S (.slice none 0 0) [] := ⟨none, 0, 0, rfl, Own.nil _ _ _ _, by simp⟩
theorem Bytes.ext {e : TypeId} {w w' : World} {S : Nat → Prop} {v : Value} {xs : List Int} (h : Bytes e w S v xs) (he : Ext w w') : Bytes e w' S v xs := by
  obtain ⟨A, n, c, rfl, h1, h2⟩ := h
  exact ⟨A, n, c, rfl, h1.extNew he, h2⟩
theorem Bytes.mono {e : TypeId} {w : World} {S S' : Nat → Prop} {v : Value} {xs : List Int} (h : Bytes e w S v xs) (hS : ∀ i, i < w.heap.size → S i → S' i) : Bytes e w S' v xs := by
  obtain ⟨A, n, c, rfl, h1, h2⟩ := h
  exact ⟨A, n, c, rfl, h1.mono hS, h2⟩
theorem Bytes.chg {e : TypeId} {w w' : World} {S S2 : Nat → Prop} {v : Value} {xs : List Int} (h : Bytes e w S v xs) (hc : Chg S2 w w') (hd : ∀ i, S i → ¬ S2 i) : Bytes e w' S v xs := by
  obtain ⟨A, n, c, rfl, h1, h2⟩ := h
  exact ⟨A, n, c, rfl, h1.chg hc hd, h2⟩
theorem Bytes.len {e : TypeId} {w : World} {S : Nat → Prop} {A : Option Addr} {n c : Nat} {xs : List Int} (h : Bytes e w S (.slice A n c) xs) : xs.length = n := by
  obtain ⟨A, n, c, h0, h1, h2⟩ := h
  cases h0
  have := h1.row.1
  simpa [nums] using this
theorem Bytes.rd {e : TypeId} {w : World} {S : Nat → Prop} {A : Option Addr} {n c : Nat} {xs : List Int} (h : Bytes e w S (.slice A n c) xs) : Rd w .u8 A n xs := by
  obtain ⟨A, n, c, h0, h1, h2⟩ := h
  cases h0
  exact h1.rd h2
/-- A row is as it was where all that has changed are blocks of other types. -/
theorem Own.kind {w w' : World} {S S2 : Nat → Prop} {e : TypeId} {size n : Nat} {v : Value} {xs : List Value} (h : Own w S e size v n xs) (hc : Chg S2 w w') (hk : ∀ i, S2 i → i < w.heap.size → ∃ c e' f, w.heap[i]? = some (.cells c e' f) ∧ e ≠ e') : Own w' S e size v n xs :=
  h.keep fun g hg => by
    have hlt := (h.row.lt g hg).2
    by_cases hs : S2 g
    · obtain ⟨c, e', f, h1, h2⟩ := hk g hs hlt
      exact absurd hg (h.ne h1 h2)
    · exact hc.block g hlt hs
theorem Bytes.kind {e : TypeId} {w w' : World} {S S2 : Nat → Prop} {v : Value} {xs : List Int} (h : Bytes e w S v xs) (hc : Chg S2 w w') (hk : ∀ i, S2 i → i < w.heap.size → ∃ c e' f, w.heap[i]? = some (.cells c e' f) ∧ e ≠ e') : Bytes e w' S v xs := by
  obtain ⟨A, n, c, rfl, h1, h2⟩ := h
  exact ⟨A, n, c, rfl, Own.kind h1 hc hk, h2⟩
/-- A store into one block of another type. -/
theorem Bytes.put {e e' : TypeId} {w : World} {S : Nat → Prop} {v : Value} {xs : List Int} (h : Bytes e w S v xs) {g i : Nat} {c : Array Value} {f : Nat × Nat} (hb : w.heap[g]? = some (.cells c e' f)) (hne : e ≠ e') (u : Value) : Bytes e (w.setCell ⟨g, i, none⟩ u) S v xs := by
  obtain ⟨A, n, k, rfl, h1, h2⟩ := h
  exact ⟨A, n, k, rfl, own_put h1 hb hne, h2⟩
theorem own_at {w : World} {S : Nat → Prop} {e : TypeId} {size n c : Nat} {ad : Addr} {xs : List Value} (h : Own w S e size (.slice (some ad) n c) n xs) : ∃ cur, ad = ⟨ad.block, 0, none⟩ ∧ w.heap[ad.block]? = some (.cells cur e (0, 0)) ∧ cur.toList.take (n * size) = xs ∧ S ad.block ∧ n * size ≤ cur.size := by
  have hf := h.foot _ rfl
  rcases h.row.2 with ⟨h1, h2⟩ | ⟨g, cap, cur, h1, h2, h3, h4, h5, h6, h7⟩
  · cases h1
  · cases h1
    refine ⟨cur, rfl, h3, h7, hf, ?_⟩
    have := congrArg List.length h7
    rw [h.row.1, List.length_take] at this
    simp at this
    omega
theorem own_kind {w : World} {S : Nat → Prop} {e : TypeId} {size n : Nat} {v : Value} {xs : List Value} (h : Own w S e size v n xs) {i : Nat} (hi : v.ownBlock = some i) : ∃ c f, w.heap[i]? = some (.cells c e f) := by
  rcases h.row.2 with ⟨rfl, _⟩ | ⟨g, cap, cur, rfl, _, hh, _⟩
  · simp [Value.ownBlock] at hi
  · simp [Value.ownBlock] at hi
    subst hi
    exact ⟨_, _, hh⟩
/-- All that has changed is a row's block: it is of its type. -/
theorem own_kinds {w : World} {S : Nat → Prop} {e e2 : TypeId} {size n : Nat} {v : Value} {xs : List Value} (h : Own w S e size v n xs) (hne : e2 ≠ e) : ∀ i, v.ownBlock = some i → i < w.heap.size → ∃ c e' f, w.heap[i]? = some (.cells c e' f) ∧ e2 ≠ e' := fun i hi _ => by
  obtain ⟨c, f, hh⟩ := own_kind h hi
  exact ⟨c, e, f, hh, hne⟩
theorem Bytes.new {e : TypeId} {w w' : World} {A : Option Addr} {n c : Nat} {xs : List Int} (h : New w w' e 1 A n c (nums .u8 xs)) (hw : ∀ x ∈ xs, (Lit.int .u8 x).wf = true) : Bytes e w' (fun i => w.heap.size ≤ i) (.slice A n c) xs := ⟨A, n, c, rfl, h, hw⟩
/-- A cell is stored into a row. -/
theorem own_setv {w : World} {S : Nat → Prop} {e : TypeId} {size n c : Nat} {ad : Addr} {xs : List Value} (h : Own w S e size (.slice (some ad) n c) n xs) (j : Nat) (u : Value) :
    Own (w.setCell (ad.add j) u) S e size (.slice (some ad) n c) n (xs.set j u) := by
  refine ⟨⟨by rw [List.length_set]; exact h.row.1, ?_⟩, fun g hg => h.foot g hg⟩
  rcases h.row.2 with ⟨h1, h2⟩ | ⟨g, cap, cur, h1, h2, h3, h4, h5, h6, h7⟩
  · cases h1
  · cases h1
    have ha : (⟨g, 0, none⟩ : Addr).add j = ⟨g, j, none⟩ := by unfold Addr.add; split <;> simp_all
    rw [ha]
    refine .inr ⟨g, c, cur.setIfInBounds j u, rfl, h2, set_blk h3 _, h4, h5, by simpa using h6, ?_⟩
    rw [Array.toList_setIfInBounds, List.take_set, h7]
/-- The first elements of a row. -/
theorem own_takeG {w : World} {S : Nat → Prop} {e : TypeId} {size : Nat} {A : Option Addr} {n c : Nat} {xs : List Value} (h : Own w S e size (.slice A n c) n xs) {m : Nat} (hm : m ≤ n) : Own w S e size (.slice A m c) m (xs.take (m * size)) := by
  have hms : m * size ≤ n * size := Nat.mul_le_mul_right _ hm
  refine ⟨⟨by rw [List.length_take, h.row.1]; omega, ?_⟩, fun g hg => h.foot g (by rcases A with _ | ad <;> simp [Value.ownBlock] at hg ⊢ <;> exact hg)⟩
  rcases h.row.2 with ⟨h1, h2⟩ | ⟨g, cap, cur, h1, h2, h3, h4, h5, h6, h7⟩
  · cases h1
    exact .inl ⟨by congr; omega, by omega⟩
  · cases h1
    refine .inr ⟨g, c, cur, rfl, h2, h3, by omega, h5, h6, ?_⟩
    rw [← h7, List.take_take]
    congr 1
    omega
theorem own_cell {w : World} {S : Nat → Prop} {e : TypeId} {size n c : Nat} {A : Option Addr} {xs : List Value} (h : Own w S e size (.slice A n c) n xs) {j : Nat} {u : Value} (hu : xs[j]? = some u) : ∃ ad, A = some ad ∧ w.cell? (ad.add j) = some u := by
  have hn : xs ≠ [] := by rintro rfl; cases hu
  obtain ⟨ad, e, hc⟩ := h.rdv hn
  exact ⟨ad, e, hc j u hu⟩

/-- An object's blocks, and all that have been laid between two worlds. -/
def Plus (S : Nat → Prop) (w w' : World) : Nat → Prop := fun i => S i ∨ (w.heap.size ≤ i ∧ i < w'.heap.size)
theorem plus_set (S : Nat → Prop) (w w' : World) (p : Addr) (v : Value) : Plus S w (w'.setCell p v) = Plus S w w' := by unfold Plus; simp
theorem Plus.old {S : Nat → Prop} {w w' : World} {i : Nat} (h : S i) : Plus S w w' i := .inl h
theorem Plus.lt {S : Nat → Prop} {w w' : World} (hS : ∀ i, S i → i < w.heap.size) (hs : w.heap.size ≤ w'.heap.size) : ∀ i, Plus S w w' i → i < w'.heap.size := fun i h => h.elim (fun h => Nat.lt_of_lt_of_le (hS i h) hs) fun h => h.2
theorem Plus.fresh {w0 : World} {S : Nat → Prop} {w w' : World} (hS : Fresh w0 S) (h : w0.heap.size ≤ w.heap.size) : Fresh w0 (Plus S w w') := fun i hi => hi.elim (hS i) fun h2 => Nat.le_trans h h2.1
theorem Plus.sep {S S2 : Nat → Prop} {w w' : World} (h : ∀ i, S i → ¬ S2 i) (h2 : ∀ i, S2 i → i < w.heap.size) : ∀ i, Plus S w w' i → ¬ S2 i := fun i hi k => hi.elim (fun h1 => h i h1 k) fun h1 => by have := h2 i k; omega
theorem Plus.mono {S : Nat → Prop} {a b c d : World} (h1 : a.heap.size ≤ b.heap.size) (h2 : c.heap.size ≤ d.heap.size) : ∀ i, Plus S b c i → Plus S a d i := fun i h => h.imp id fun ⟨k1, k2⟩ => ⟨by omega, by omega⟩
theorem Plus.step {S : Nat → Prop} {w w' : World} (h : Chg S w w') : Step S (Plus S w w') w w' := ⟨h, fun i hi => hi.imp id fun h => h.1⟩
theorem Plus.trans {S : Nat → Prop} {a b c : World} (h1 : a.heap.size ≤ b.heap.size) (h2 : b.heap.size ≤ c.heap.size) : ∀ i, Plus (Plus S a b) b c i → Plus S a c i := fun i h => by
  rcases h with (h | h) | h
  · exact .inl h
  · exact .inr ⟨h.1, by omega⟩
  · exact .inr ⟨by omega, h.2⟩
/-- What the call changes is S, and later what it has laid: all in all S. -/
theorem chg_plus {S : Nat → Prop} {a b c : World} (h : Chg S a b) (k : Chg (Plus S a b) b c) : Chg S a c := h.step k fun i hi hp => hp.elim id fun h2 => by omega
theorem chg_ext {S : Nat → Prop} {a b c : World} (h : Chg S a b) (k : Ext b c) : Chg S a c := h.trans (Below.chg k)
theorem ext_chg {S : Nat → Prop} {a b c : World} (h : Ext a b) (k : Chg S b c) : Chg S a c := Chg.trans (Below.chg h) k

section
variable {P : Program}
/-- An append of one element that a literal has laid. -/
theorem wpList_appE {ops : Array Oper} {rest : List Oper} {o : Oper} {a : Act} {Q : Exit → Act → World → Prop} (w : World) (hgd : Region.wanted o (yielded ops a.tmps) = true) (s x : Operand) (t : TypeId)
    (ho : o.op = .call { callee := .builtin .append, args := #[s, x], argTypes := #[t, t] })
    (S : Nat → Prop) (e : TypeId) (z : Value) (size bytes : Nat) (ht : P.underlying t = some (.slice e)) (hinfo : (P.info? e).map (fun i => (i.zero, i.size, i.bytes)) = some (some z, size, bytes)) (hzs : z.cells.size = size) (hsz : 0 < size) (hb0 : 0 < bytes)
    (v : Value) (n : Nat) (xs : List Value) (hs : a.eval s = v) (hown : Own w S e size v n xs) (g c : Nat) (vs : List Value) (hx : a.eval x = .slice (some ⟨g, 0, none⟩) 1 c) (hl : vs.length = size) (hc : ∀ j u, vs[j]? = some u → w.cell? ⟨g, j, none⟩ = some u) (h1 : ∀ u ∈ vs, u.oneCell' = true)
    (hbytes : (n + 1) * bytes ≤ 140737488355328) (hS : ∀ i, w.heap.size ≤ i → S i)
    (h : ∀ A' c' w', Own w' S e size (.slice A' (n + 1) c') (n + 1) (xs ++ vs) → Chg (fun i => v.ownBlock = some i) w w' → wpList P ops Q rest (a.put o.dst (.slice A' (n + 1) c')) w') : wpList P ops Q (o :: rest) a w := by
  refine wpList_step fun K hK => ?_
  rw [if_pos hgd]
  obtain ⟨i, hi, hz, hsize, hby⟩ := info_parts hinfo
  have hlen : n + 1 ≤ 140737488355328 := Nat.le_trans (Nat.le_mul_of_pos_right _ hb0) hbytes
  have hga : ∀ j, (⟨g, 0, none⟩ : Addr).add j = ⟨g, j, none⟩ := fun j => by unfold Addr.add; split <;> simp_all
  obtain ⟨v', w', hrun, h2, h3, _, h5⟩ := run_append_own_at (P := P) w 0 t o.type e i z size bytes ht hi hz hsize hby hzs hsz v n xs hown.row ⟨g, 0, none⟩ 1 c vs (by simp [hl])
    (fun j u hu => by rw [hga]; exact hc j u hu) h1 (by simp only [maxLen]; omega) hbytes (Nat.zero_le _)
  obtain ⟨A', c', rfl⟩ := own_slice h2
  unfold Oper.wp execOp
  simp only [ho, resolve, invoke, builtin, Sem.run_bind, Sem.run_pure, Result.andThen_ok, List.map_toArray, List.map_cons, List.map_nil, hs, hx, hrun]
  refine hK _ _ (h A' c' w' ⟨h2, fun k hk => ?_⟩ ((Chg.refl _ _).grown h3 fun k hk => hk))
  rcases h5 with h5 | h5
  · exact hown.foot k (by rw [← h5]; exact hk)
  · rw [h5] at hk
    cases hk
    exact hS _ (Nat.le_refl _)
/-- An append of what a slice of whatever cells reads, nil or not. -/
theorem wpList_appV {ops : Array Oper} {rest : List Oper} {o : Oper} {a : Act} {Q : Exit → Act → World → Prop} (w : World) (hgd : Region.wanted o (yielded ops a.tmps) = true) (s x : Operand) (t : TypeId)
    (ho : o.op = .call { callee := .builtin .append, args := #[s, x], argTypes := #[t, t] })
    (S : Nat → Prop) (e : TypeId) (z : Value) (size bytes : Nat) (ht : P.underlying t = some (.slice e)) (hinfo : (P.info? e).map (fun i => (i.zero, i.size, i.bytes)) = some (some z, size, bytes)) (hzs : z.cells.size = size) (hsz : 0 < size) (hb0 : 0 < bytes)
    (v : Value) (n : Nat) (xs : List Value) (hs : a.eval s = v) (hown : Own w S e size v n xs) (A : Option Addr) (m c : Nat) (vs : List Value) (hx : a.eval x = .slice A m c) (hl : vs.length = m * size) (hA : A = none → m = 0) (hc : ∀ ad, A = some ad → ∀ j u, vs[j]? = some u → w.cell? (ad.add j) = some u) (h1 : ∀ u ∈ vs, u.oneCell' = true)
    (hbytes : (n + m) * bytes ≤ 140737488355328) (hS : ∀ i, w.heap.size ≤ i → S i)
    (h : ∀ A' c' w', Own w' S e size (.slice A' (n + m) c') (n + m) (xs ++ vs) → Chg (fun i => v.ownBlock = some i) w w' → wpList P ops Q rest (a.put o.dst (.slice A' (n + m) c')) w') : wpList P ops Q (o :: rest) a w := by
  refine wpList_step fun K hK => ?_
  rw [if_pos hgd]
  obtain ⟨i, hi, hz, hsize, hby⟩ := info_parts hinfo
  have hlen : n + m ≤ 140737488355328 := Nat.le_trans (Nat.le_mul_of_pos_right _ hb0) hbytes
  have key : ∃ v' w', (Builtin.append_ #[t, t] o.type #[v, .slice A m c]).run P w = .ok v' w' ∧ w'.ownsRow 0 e size v' (n + m) (xs ++ vs) ∧ w.grownBy w' v.ownBlock ∧ (v'.ownBlock = v.ownBlock ∨ v'.ownBlock = some w.heap.size) := by
    rcases A with _ | ad
    · have h0 := hA rfl
      subst h0
      obtain rfl : vs = [] := List.eq_nil_of_length_eq_zero (by simpa using hl)
      refine ⟨v, w, ?_, by simpa using hown.row, World.grownBy.refl w _, .inl rfl⟩
      rcases hown.row.2 with ⟨rfl, rfl⟩ | ⟨g, cap, cur, rfl, _, _, hnc, _⟩
      · simp [Builtin.append_, run_underlying ht, sizeOf, typeInfo, hi, Builtin.lenOf, Builtin.firstCells]
      · simp [Builtin.append_, run_underlying ht, sizeOf, typeInfo, hi, Builtin.lenOf, Builtin.firstCells, hnc, storeCells]
    · obtain ⟨v', w', hrun, h2, h3, _, h5⟩ := run_append_own_at (P := P) w 0 t o.type e i z size bytes ht hi hz hsize hby hzs hsz v n xs hown.row ad m c vs hl (hc ad rfl) h1 (by simp only [maxLen]; omega) hbytes (Nat.zero_le _)
      exact ⟨v', w', hrun, h2, h3, h5⟩
  obtain ⟨v', w', hrun, h2, h3, h5⟩ := key
  obtain ⟨A', c', rfl⟩ := own_slice h2
  unfold Oper.wp execOp
  simp only [ho, resolve, invoke, builtin, Sem.run_bind, Sem.run_pure, Result.andThen_ok, List.map_toArray, List.map_cons, List.map_nil, hs, hx, hrun]
  refine hK _ _ (h A' c' w' ⟨h2, fun k hk => ?_⟩ ((Chg.refl _ _).grown h3 fun k hk => hk))
  rcases h5 with h5 | h5
  · exact hown.foot k (by rw [← h5]; exact hk)
  · rw [h5] at hk
    cases hk
    exact hS _ (Nat.le_refl _)
end
end Go.Proofs.Ytipmkddcdnbihaa.Vec
