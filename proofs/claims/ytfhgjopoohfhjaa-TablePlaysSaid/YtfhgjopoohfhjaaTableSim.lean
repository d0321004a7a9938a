/- Two tables that say the same, the program's and the document's: they answer alike, and say the same behind it. -/
import Derived.Test.YtfhgjopoohfhjaaTableZ
namespace Go.Proofs.Ytfhgjopoohfhjaa.Tbl
open Go.RowKit Base Step Vec Shape Erase
/-! how texts compare -/
theorem u8_eq {a b : UInt8} (h1 : ¬ a < b) (h2 : ¬ b < a) : a = b := by
  rw [UInt8.lt_iff_toNat_lt] at h1 h2
  exact UInt8.toNat_inj.1 (by omega)
theorem cmp_zero : ∀ a b : List UInt8, Lib.compareBytes a b = 0 ↔ a = b
  | [], [] => by simp [Lib.compareBytes]
  | [], _ :: _ => by simp [Lib.compareBytes]
  | _ :: _, [] => by simp [Lib.compareBytes]
  | a :: xs, b :: ys => by
    unfold Lib.compareBytes
    by_cases h1 : a < b
    · rw [if_pos h1]
      refine ⟨fun h => (by cases h), fun h => ?_⟩
      injection h with h _
      subst h
      rw [UInt8.lt_iff_toNat_lt] at h1
      omega
    · rw [if_neg h1]
      by_cases h2 : b < a
      · rw [if_pos h2]
        refine ⟨fun h => (by cases h), fun h => ?_⟩
        injection h with h _
        subst h
        rw [UInt8.lt_iff_toNat_lt] at h2
        omega
      · rw [if_neg h2, cmp_zero xs ys]
        have := u8_eq h1 h2
        subst this
        simp
theorem cmp_flip : ∀ a b : List UInt8, Lib.compareBytes b a = - Lib.compareBytes a b
  | [], [] => rfl
  | [], _ :: _ => rfl
  | _ :: _, [] => rfl
  | a :: xs, b :: ys => by
    unfold Lib.compareBytes
    by_cases h1 : a < b
    · have h2 : ¬ b < a := by rw [UInt8.lt_iff_toNat_lt] at h1 ⊢; omega
      rw [if_pos h1, if_neg h2, if_pos h1]
      rfl
    · by_cases h2 : b < a
      · rw [if_pos h2, if_neg h1, if_pos h2]
      · rw [if_neg h2, if_neg h1, if_neg h1, if_neg h2, cmp_flip xs ys]
theorem cmp_trans : ∀ a b c : List UInt8, Lib.compareBytes a b < 0 → Lib.compareBytes b c < 0 → Lib.compareBytes a c < 0
  | [], [], c, h, _ => by simp [Lib.compareBytes] at h
  | [], _ :: _, [], _, h => by simp [Lib.compareBytes] at h
  | [], _ :: _, _ :: _, _, _ => by simp [Lib.compareBytes]
  | _ :: _, [], c, h, _ => by simp [Lib.compareBytes] at h
  | _ :: _, _ :: _, [], _, h => by simp [Lib.compareBytes] at h
  | a :: xs, b :: ys, c :: zs, h1, h2 => by
    unfold Lib.compareBytes at h1 h2 ⊢
    by_cases hab : a < b
    · by_cases hbc : b < c
      · rw [if_pos (by rw [UInt8.lt_iff_toNat_lt] at *; omega)]
        decide
      · rw [if_neg hbc] at h2
        by_cases hcb : c < b
        · rw [if_pos hcb] at h2
          exact absurd h2 (by decide)
        · have := u8_eq hbc hcb
          subst this
          rw [if_pos hab]
          decide
    · rw [if_neg hab] at h1
      by_cases hba : b < a
      · rw [if_pos hba] at h1
        exact absurd h1 (by decide)
      · have := u8_eq hab hba
        subst this
        rw [if_neg hba] at h1
        by_cases hbc : a < c
        · rw [if_pos hbc]
          decide
        · rw [if_neg hbc] at h2 ⊢
          by_cases hcb : c < a
          · rw [if_pos hcb] at h2
            exact absurd h2 (by decide)
          · rw [if_neg hcb] at h2 ⊢
            exact cmp_trans xs ys zs h1 h2
theorem less_iff : ∀ a b : List UInt8, Op.bytesLess a b = true ↔ Lib.compareBytes a b < 0
  | [], [] => by simp [Op.bytesLess, Lib.compareBytes]
  | [], _ :: _ => by simp [Op.bytesLess, Lib.compareBytes]
  | _ :: _, [] => by simp [Op.bytesLess, Lib.compareBytes]
  | a :: xs, b :: ys => by
    unfold Op.bytesLess Lib.compareBytes
    by_cases h1 : a < b
    · simp [h1]
    · by_cases h2 : b < a
      · have h3 : a ≠ b := fun e => by subst e; exact h1 h2
        simp [h1, h2, h3]
      · have h3 := u8_eq h1 h2
        subst h3
        simp [h1, less_iff xs ys]
theorem cmpS_zero {a b : ByteArray} : cmpS a b = 0 ↔ a = b := by
  unfold cmpS
  rw [cmp_zero]
  exact ⟨fun h => ByteArray.ext (Array.toList_inj.1 h), fun h => by rw [h]⟩
theorem cmpS_flip (a b : ByteArray) : cmpS b a = - cmpS a b := cmp_flip _ _
theorem cmpS_trans {a b c : ByteArray} (h1 : cmpS a b < 0) (h2 : cmpS b c < 0) : cmpS a c < 0 := cmp_trans _ _ _ h1 h2
theorem lessS_iff {a b : ByteArray} : Op.bytesLess a.toList b.toList = true ↔ cmpS a b < 0 := by
  rw [ByteArray.toList_eq, ByteArray.toList_eq]
  exact less_iff _ _
/-! objects in order -/
def Sorted (l : List Obj) : Prop := l.Pairwise fun a b => cmpS (name a) (name b) < 0
theorem pos_lt {s : ByteArray} : ∀ {l : List Obj} {h : Nat} {o : Obj}, l[h]? = some o → h < posFrom s l → cmpS (name o) s < 0
  | [], h, o, ho, _ => by simp at ho
  | x :: l, h, o, ho, hp => by
    rw [posFrom_cons] at hp
    split at hp
    · rename_i hl
      cases h with
      | zero =>
        have ho : x = o := by simpa using ho
        subst ho
        exact lessS_iff.1 hl
      | succ h => exact pos_lt (l := l) (h := h) (by simpa using ho) (by omega)
    · omega
theorem pos_ge {s : ByteArray} : ∀ {l : List Obj} (hs : Sorted l) {h : Nat} {o : Obj}, l[h]? = some o → posFrom s l ≤ h → ¬ cmpS (name o) s < 0
  | [], _, h, o, ho, _ => by simp at ho
  | x :: l, hs, h, o, ho, hp => by
    have hs' := List.pairwise_cons.1 hs
    rw [posFrom_cons] at hp
    split at hp
    · cases h with
      | zero => omega
      | succ h => exact pos_ge (l := l) hs'.2 (h := h) (by simpa using ho) (by omega)
    · rename_i hl
      have hx : ¬ cmpS (name x) s < 0 := fun k => hl (lessS_iff.2 k)
      cases h with
      | zero =>
        have ho : x = o := by simpa using ho
        subst ho
        exact hx
      | succ h =>
        have hm : o ∈ l := List.mem_of_getElem? (i := h) (by simpa using ho)
        exact fun k => hx (cmpS_trans (hs'.1 o hm) k)
theorem bsGo_eq {cf : Nat → Int} {p : Nat} : ∀ (f i j : Nat), i ≤ p → p ≤ j → j - i ≤ f → (∀ h, h < p → cf h < 0) → (∀ h, p ≤ h → h < j → ¬ cf h < 0) → bsGo cf f i j = p
  | 0, i, j, h1, h2, h3, _, _ => by
    unfold bsGo
    omega
  | f + 1, i, j, h1, h2, h3, h4, h5 => by
    unfold bsGo
    by_cases hij : i < j
    · rw [if_pos hij]
      by_cases hc : cf ((i + j) / 2) < 0
      · rw [if_pos hc]
        have : (i + j) / 2 < p := by
          rcases Nat.lt_or_ge ((i + j) / 2) p with h | h
          · exact h
          · exact absurd hc (h5 _ h (by omega))
        exact bsGo_eq f _ _ (by omega) h2 (by omega) h4 h5
      · rw [if_neg hc]
        have : p ≤ (i + j) / 2 := by
          rcases Nat.lt_or_ge ((i + j) / 2) p with h | h
          · exact absurd (h4 _ h) hc
          · exact h
        exact bsGo_eq f _ _ h1 this (by omega) h4 fun h h6 h7 => h5 h h6 (by omega)
    · rw [if_neg hij]
      omega
theorem place_pos {l : List Obj} (hs : Sorted l) (s : ByteArray) : place l s = posFrom s l := by
  have hle := posFrom_le s l
  refine bsGo_eq _ _ _ (Nat.zero_le _) hle (by omega) (fun h hh => ?_) (fun h h1 h2 => ?_)
  · obtain ⟨o, ho⟩ : ∃ o, l[h]? = some o := ⟨_, List.getElem?_eq_getElem (by omega)⟩
    simp only [ho]
    exact pos_lt ho hh
  · obtain ⟨o, ho⟩ : ∃ o, l[h]? = some o := ⟨_, List.getElem?_eq_getElem h2⟩
    simp only [ho]
    exact pos_ge hs ho h1
/-- A name stands at its place, or nowhere. -/
theorem name_pos {l : List Obj} (hs : Sorted l) {j : Nat} {o : Obj} (ho : l[j]? = some o) : j = posFrom (name o) l := by
  have h0 : cmpS (name o) (name o) = 0 := cmpS_zero.2 rfl
  rcases Nat.lt_trichotomy j (posFrom (name o) l) with h | h | h
  · have := pos_lt ho h
    omega
  · exact h
  · obtain ⟨x, hx⟩ : ∃ x, l[posFrom (name o) l]? = some x := ⟨_, List.getElem?_eq_getElem (by have := (List.getElem?_eq_some_iff.1 ho).1; omega)⟩
    have h1 := pos_ge hs hx (Nat.le_refl _)
    have h2 := List.pairwise_iff_getElem.1 hs _ _ (List.getElem?_eq_some_iff.1 hx).1 (List.getElem?_eq_some_iff.1 ho).1 h
    rw [(List.getElem?_eq_some_iff.1 hx).2, (List.getElem?_eq_some_iff.1 ho).2] at h2
    exact absurd h2 h1
theorem there_name {l : List Obj} (hs : Sorted l) (s : ByteArray) : (there l s = false ∧ nameAt l s = -1) ∨ (there l s = true ∧ nameAt l s = (place l s : Nat) ∧ ∃ o, l[place l s]? = some o ∧ name o = s) := by
  rcases nameFrom_spec s l 0 with ⟨h1, h2⟩ | ⟨j, o, h1, h2, h3⟩
  · left
    refine ⟨?_, h1⟩
    cases hh : there l s with
    | false => rfl
    | true =>
      obtain ⟨o, ho, hc⟩ := there_at hh
      exact absurd (cmpS_zero.1 hc) (h2 o (List.mem_of_getElem? ho))
  · right
    have hj : j = place l s := by rw [place_pos hs, ← h3]; exact name_pos hs h2
    subst hj
    refine ⟨?_, by rw [show nameAt l s = nameFrom s l 0 from rfl, h1, Nat.zero_add], o, h2, h3⟩
    rw [there_yes h2]
    exact decide_eq_true (cmpS_zero.2 h3)
/-! what objects say -/
abbrev View := Int × ByteArray × planS.T × List (List plS.T)
def view (o : Obj) : View := (num o, name o, plan o, (rows o).map rP)
theorem view_num {a b : Obj} (h : view a = view b) : num a = num b := congrArg (·.1) h
theorem view_name {a b : Obj} (h : view a = view b) : name a = name b := congrArg (·.2.1) h
theorem view_plan {a b : Obj} (h : view a = view b) : plan a = plan b := congrArg (·.2.2.1) h
theorem view_rows {a b : Obj} (h : view a = view b) : (rows a).map rP = (rows b).map rP := congrArg (·.2.2.2) h
theorem posFrom_view {s : ByteArray} : ∀ {l m : List Obj}, l.map view = m.map view → posFrom s l = posFrom s m
  | [], [], _ => rfl
  | [], _ :: _, h => by simp at h
  | _ :: _, [], h => by simp at h
  | a :: l, b :: m, h => by
    simp only [List.map_cons, List.cons.injEq] at h
    rw [posFrom_cons, posFrom_cons, view_name h.1, posFrom_view h.2]
theorem nameFrom_view {s : ByteArray} : ∀ {l m : List Obj} {i : Nat}, l.map view = m.map view → nameFrom s l i = nameFrom s m i
  | [], [], _, _ => rfl
  | [], _ :: _, _, h => by simp at h
  | _ :: _, [], _, h => by simp at h
  | a :: l, b :: m, i, h => by
    simp only [List.map_cons, List.cons.injEq] at h
    unfold nameFrom
    rw [view_name h.1, nameFrom_view h.2]
theorem numFrom_view {k : Int} : ∀ {l m : List Obj} {i : Nat}, l.map view = m.map view → numFrom k l i = numFrom k m i
  | [], [], _, _ => rfl
  | [], _ :: _, _, h => by simp at h
  | _ :: _, [], _, h => by simp at h
  | a :: l, b :: m, i, h => by
    simp only [List.map_cons, List.cons.injEq] at h
    unfold numFrom
    rw [view_num h.1, numFrom_view h.2]
theorem view_at {l m : List Obj} (h : l.map view = m.map view) {i : Nat} {a : Obj} (ha : l[i]? = some a) : ∃ b, m[i]? = some b ∧ view a = view b := by
  have h1 : (l.map view)[i]? = some (view a) := by rw [List.getElem?_map, ha]; rfl
  rw [h, List.getElem?_map] at h1
  obtain ⟨b, hb, he⟩ := Option.map_eq_some_iff.1 h1
  exact ⟨b, hb, he.symm⟩
theorem sorted_view {l m : List Obj} (h : l.map view = m.map view) (hs : Sorted l) : Sorted m := by
  have h1 : (m.map view).Pairwise fun a b => cmpS a.2.1 b.2.1 < 0 := by
    rw [← h, List.pairwise_map]
    exact hs
  rw [List.pairwise_map] at h1
  exact h1
theorem if_iff {α : Type} {p q : Prop} {i : Decidable p} {j : Decidable q} (h : p ↔ q) {x x' y y' : α} (hx : x = x') (hy : y = y') : @ite α p i x y = @ite α q j x' y' := by
  subst hx hy
  by_cases hp : p
  · rw [if_pos hp, if_pos (h.1 hp)]
  · rw [if_neg hp, if_neg fun k => hp (h.2 k)]
/-- Two tables that say the same. -/
structure Eqv (t r : Tb) : Prop where
  nx : t.nx = r.nx
  ls : t.ls = r.ls
  objs : t.objs.map view = r.objs.map view
theorem Eqv.len {t r : Tb} (h : Eqv t r) : t.objs.length = r.objs.length := by
  have := congrArg List.length h.objs
  simpa using this
theorem Eqv.num {t r : Tb} (h : Eqv t r) (k : Int) : numAt t.objs k = numAt r.objs k := numFrom_view h.objs
theorem Eqv.name {t r : Tb} (h : Eqv t r) (s : ByteArray) : nameAt t.objs s = nameAt r.objs s := nameFrom_view h.objs
theorem Eqv.pos {t r : Tb} (h : Eqv t r) (s : ByteArray) : posFrom s t.objs = posFrom s r.objs := posFrom_view h.objs
/-- An operation with other rows that say the same. -/
def Same (l l' : List Row) : Prop := l'.map rP = l.map rP
theorem Made.same {w w' : World} {l l' : List Row} {n c : Nat} {A : Option Addr} (h : Made w w' l l' n A c) (hl : l.length = n) : Same l l' := by
  unfold Same
  apply List.ext_getElem?
  intro i
  rw [List.getElem?_map, List.getElem?_map]
  have h1 := h.len
  rcases Nat.lt_or_ge i n with hi | hi
  · obtain ⟨r, hr⟩ : ∃ r, l[i]? = some r := ⟨_, List.getElem?_eq_getElem (by omega)⟩
    obtain ⟨r', hr'⟩ : ∃ r', l'[i]? = some r' := ⟨_, List.getElem?_eq_getElem (by omega)⟩
    obtain ⟨⟨_, h2⟩, _⟩ := h.alike i r r' hr hr'
    rw [hr, hr']
    simp [h2]
  · rw [List.getElem?_eq_none (by omega), List.getElem?_eq_none (by omega)]
theorem planOk_with {sl nd : Nat} {o : Op} {A : Option Addr} {c : Nat} {l : List Row} (h : Same o.rows l) : PlanOk sl nd (withRows o A c l) ↔ PlanOk sl nd o := by
  have hm : ∀ (x y : List Row), x.map rP = y.map rP → (∀ r ∈ x, Right sl nd (rP r)) → ∀ r ∈ y, Right sl nd (rP r) := fun x y hxy hx r hr => by
    have h1 : rP r ∈ y.map rP := List.mem_map_of_mem hr
    rw [← hxy] at h1
    obtain ⟨r0, h2, h3⟩ := List.mem_map.1 h1
    rw [← h3]
    exact hx r0 h2
  exact ⟨fun k => ⟨k.l0, k.l1, k.c0, k.c1, k.p0, k.p1, k.n, hm _ _ h k.rows⟩, fun k => ⟨k.l0, k.l1, k.c0, k.c1, k.p0, k.p1, k.n, hm _ _ h.symm k.rows⟩⟩
/-- What is known of both tables. -/
structure Both (t r : Tb) : Prop where
  eqv : Eqv t r
  sorted : Sorted t.objs
  tn : t.objs.length = t.n
  rn : r.objs.length = r.n
  tp : ∀ ob ∈ t.objs, (rows ob).length = pN ob
  rp : ∀ ob ∈ r.objs, (rows ob).length = pN ob
theorem commitC_eq {sl nd : Nat} {t r : Tb} {o : Op} {A : Option Addr} {c : Nat} {l : List Row} (h : Both t r) (hs : Same o.rows l) : commitC sl nd t (withRows o A c l) = rCommitC sl nd r o := by
  have hn : t.n = r.n := by rw [← h.tn, ← h.rn]; exact h.eqv.len
  have h1 : (there t.objs o.name = true) ↔ 0 ≤ nameAt r.objs o.name := by
    rw [← h.eqv.name]
    rcases there_name h.sorted o.name with ⟨h1, h2⟩ | ⟨h1, h2, _⟩
    · rw [h1, h2]; simp
    · rw [h1, h2]; simp
  unfold commitC rCommitC
  have e1 : (withRows o A c l).name = o.name := rfl
  have e2 : (withRows o A c l).num = o.num := rfl
  simp only [e1, e2, h.eqv.nx, h.eqv.ls, hn, h.eqv.num, h1]
  exact if_iff (not_congr (and_congr Iff.rfl (planOk_with hs))) rfl rfl
theorem view_like {o : Op} {ob : Obj} (h : Like o ob) : view ob = (o.num, o.name, (o.l, o.c, o.p, ()), o.rows.map rP) := by
  have hr : (rows ob).map rP = o.rows.map rP := by
    apply List.ext_getElem?
    intro i
    rw [List.getElem?_map, List.getElem?_map]
    have hl := h.len
    rcases Nat.lt_or_ge i o.rows.length with hi | hi
    · obtain ⟨r, hr⟩ : ∃ r, o.rows[i]? = some r := ⟨_, List.getElem?_eq_getElem hi⟩
      obtain ⟨r', hr'⟩ : ∃ r', (rows ob)[i]? = some r' := ⟨_, List.getElem?_eq_getElem (by omega)⟩
      rw [hr, hr']
      simp [(h.alike i r r' hr hr').2]
    · rw [List.getElem?_eq_none hi, List.getElem?_eq_none (by omega)]
  show (num ob, name ob, plan ob, (rows ob).map rP) = _
  rw [h.num, h.name, h.plan, hr]
  rfl
theorem view_obOf (o : Op) : view (obOf o) = (o.num, o.name, (o.l, o.c, o.p, ()), o.rows.map rP) := rfl
theorem sorted_put {l : List Obj} {ob : Obj} (hs : Sorted l) (hn : ∀ o ∈ l, name o ≠ name ob) : Sorted (l.take (posFrom (name ob) l) ++ [ob] ++ l.drop (posFrom (name ob) l)) := by
  have hsub : ∀ x ∈ l.take (posFrom (name ob) l), cmpS (name x) (name ob) < 0 := fun x hx => by
    obtain ⟨j, hj, hjx⟩ := List.getElem_of_mem hx
    have hj2 : j < posFrom (name ob) l ∧ j < l.length := by simp at hj; omega
    exact pos_lt (l := l) (h := j) (by rw [← hjx, List.getElem_take, List.getElem?_eq_getElem hj2.2]) hj2.1
  have hsup : ∀ x ∈ l.drop (posFrom (name ob) l), cmpS (name ob) (name x) < 0 := fun x hx => by
    obtain ⟨j, hj, hjx⟩ := List.getElem_of_mem hx
    have hj2 : posFrom (name ob) l + j < l.length := by simp at hj; omega
    have h1 := pos_ge hs (h := posFrom (name ob) l + j) (o := x) (by rw [← hjx, List.getElem_drop, List.getElem?_eq_getElem hj2]) (Nat.le_add_right _ _)
    have h2 : cmpS (name x) (name ob) ≠ 0 := fun k => hn x (List.mem_of_mem_drop hx) (cmpS_zero.1 k)
    rw [cmpS_flip]
    omega
  unfold Sorted
  rw [List.append_assoc, List.pairwise_append]
  refine ⟨hs.sublist (List.take_sublist ..), ?_, fun a ha b hb => ?_⟩
  · rw [List.singleton_append, List.pairwise_cons]
    exact ⟨hsup, hs.sublist (List.drop_sublist ..)⟩
  · rcases List.mem_append.1 hb with hb | hb
    · have hb : b = ob := by simpa using hb
      subst hb
      exact hsub a ha
    · exact cmpS_trans (hsub a ha) (hsup b hb)
theorem sim_commit {sl nd : Nat} {t r t' r' : Tb} {o : Op} {A : Option Addr} {c : Nat} {l : List Row} {w : World} (h : Both t r) (hs : Same o.rows l) (ht : CommitR sl nd t (withRows o A c l) w (commitC sl nd t (withRows o A c l)) t') (hr : RCommitR sl nd r o (rCommitC sl nd r o) r') : Eqv t' r' ∧ Sorted t'.objs := by
  have hc := commitC_eq (sl := sl) (nd := nd) (A := A) (c := c) h hs
  by_cases h0 : rCommitC sl nd r o = 0
  · obtain ⟨_, _, h1, h2, ob, h3, h4⟩ := ht.2 (by rw [hc]; exact h0)
    obtain ⟨_, _, k1, k2, k3⟩ := hr.2 h0
    have hz := commit_zero (by rw [hc]; exact h0)
    have hnm : name ob = o.name := h3.name
    have hpl : place t.objs (withRows o A c l).name = posFrom o.name t.objs := place_pos h.sorted _
    rw [hpl] at h4
    have hno : ∀ x ∈ t.objs, name x ≠ name ob := fun x hx => by
      rw [hnm]
      rcases nameFrom_spec o.name t.objs 0 with ⟨_, h6⟩ | ⟨j, p, h5, h6, h7⟩
      · exact h6 x hx
      · exfalso
        rcases there_name h.sorted o.name with ⟨h8, h9⟩ | ⟨h8, _⟩
        · have : nameAt t.objs o.name = ((0 + j : Nat) : Int) := h5
          omega
        · have h10 : there t.objs o.name = false := hz.2.2.2
          rw [h8] at h10
          cases h10
    refine ⟨⟨by rw [h1, k1]; exact h.eqv.nx, by rw [h2, k2]; rfl, ?_⟩, ?_⟩
    · rw [h4, k3, ← h.eqv.pos]
      simp only [List.map_append, List.map_take, List.map_drop, List.map_cons, List.map_nil, h.eqv.objs]
      have hv : view ob = view (obOf o) := by
        rw [view_like h3, view_obOf]
        show (o.num, o.name, (o.l, o.c, o.p, ()), l.map rP) = _
        rw [hs]
      rw [hv]
    · rw [h4, ← hnm]
      exact sorted_put h.sorted hno
  · rw [ht.1 (by rw [hc]; exact h0), hr.1 h0]
    exact ⟨h.eqv, h.sorted⟩
theorem sim_remove {t r t' r' : Tb} {s : ByteArray} (h : Both t r) (ht : if there t.objs s then removed t (place t.objs s) t' else t' = t) (hr : if nameAt r.objs s < 0 then r' = r else removed r (nameAt r.objs s).toNat r') : Eqv t' r' ∧ Sorted t'.objs ∧ ((there t.objs s = true) ↔ ¬ nameAt r.objs s < 0) := by
  rw [← h.eqv.name] at hr ⊢
  rcases there_name h.sorted s with ⟨h1, h2⟩ | ⟨h1, h2, _⟩
  · rw [h1] at ht ⊢
    rw [h2] at hr ⊢
    rw [if_neg Bool.false_ne_true] at ht
    rw [if_pos (by decide)] at hr
    subst ht hr
    exact ⟨h.eqv, h.sorted, by simp⟩
  · rw [h1, if_pos rfl] at ht
    rw [h2, if_neg (by omega)] at hr
    rw [h1, h2]
    obtain ⟨a1, a2, a3⟩ := ht
    obtain ⟨b1, b2, b3⟩ := hr
    refine ⟨⟨by rw [a1, b1]; exact h.eqv.nx, by rw [a2, b2]; exact h.eqv.ls, ?_⟩, h.sorted.sublist (removed_sub ⟨a1, a2, a3⟩), by simp⟩
    rw [a3, b3]
    simp only [List.map_append, List.map_take, List.map_drop, h.eqv.objs, Int.toNat_natCast]
/-! a slot's shard is elsewhere -/
def setView (v : View) (j q : Nat) (p : plS.T) : View := (v.1, v.2.1, v.2.2.1, v.2.2.2.set j ((v.2.2.2.getD j []).set q p))
theorem view_moved {o : Op} {ob ob' : Obj} (h : Moved o ob ob') (hj : o.stripe.toNat < (rows ob).length) : view ob' = setView (view ob) o.stripe.toNat o.slot.toNat (pl o.node o.gen) := by
  have hr : (rows ob').map rP = ((rows ob).map rP).set o.stripe.toNat ((((rows ob).map rP).getD o.stripe.toNat []).set o.slot.toNat (pl o.node o.gen)) := by
    apply List.ext_getElem?
    intro i
    have hl := h.len
    rw [List.getElem?_map]
    rcases Nat.lt_or_ge i (rows ob).length with hi | hi
    · obtain ⟨r, hr⟩ : ∃ r, (rows ob)[i]? = some r := ⟨_, List.getElem?_eq_getElem hi⟩
      obtain ⟨r', hr'⟩ : ∃ r', (rows ob')[i]? = some r' := ⟨_, List.getElem?_eq_getElem (by omega)⟩
      have h2 := (h.each i r r' hr hr').2
      rw [hr']
      by_cases hij : i = o.stripe.toNat
      · rw [if_pos hij] at h2
        rw [hij, List.getElem?_set]
        simp only [List.length_map, hj, if_true]
        rw [List.getD_eq_getElem?_getD, List.getElem?_map, ← hij, hr]
        simp [h2]
      · rw [if_neg hij] at h2
        rw [List.getElem?_set_ne (Ne.symm hij), List.getElem?_map, hr]
        simp [h2]
    · rw [List.getElem?_eq_none (by omega), List.getElem?_eq_none (by simp; omega)]
      rfl
  show (num ob', name ob', plan ob', (rows ob').map rP) = _
  rw [h.num, h.name, h.plan, hr]
  rfl
theorem rows_len {a b : Obj} (h : view a = view b) : (rows a).length = (rows b).length := by
  have := congrArg List.length (view_rows h)
  simpa using this
theorem rowOf_eq {t r : Tb} (h : Eqv t r) (o : Op) : rowOf t o = rowOf r o := by
  unfold rowOf
  rw [h.num]
  cases ht : t.objs[(numAt r.objs o.num).toNat]? with
  | none =>
    have : r.objs[(numAt r.objs o.num).toNat]? = none := by
      rw [List.getElem?_eq_none_iff] at ht ⊢
      rw [← h.len]
      exact ht
    rw [this]
  | some a =>
    obtain ⟨b, hb, hv⟩ := view_at h.objs ht
    rw [hb]
    have hr : ∀ i : Nat, ((rows a)[i]?).map rP = ((rows b)[i]?).map rP := fun i => by rw [← List.getElem?_map, ← List.getElem?_map, view_rows hv]
    have h1 := hr o.stripe.toNat
    dsimp only
    cases ha : (rows a)[o.stripe.toNat]? with
    | none =>
      rw [ha] at h1
      cases hb2 : (rows b)[o.stripe.toNat]? with
      | none => rfl
      | some x => rw [hb2] at h1; cases h1
    | some x =>
      rw [ha] at h1
      cases hb2 : (rows b)[o.stripe.toNat]? with
      | none => rw [hb2] at h1; cases h1
      | some y => rw [hb2] at h1; simpa using h1
theorem badMove_eq {sl : Nat} {t r : Tb} {o : Op} (h : Both t r) : badMove sl t o ↔ badMove sl r o := by
  unfold badMove
  rw [h.eqv.num]
  have h1 : (∀ ob, t.objs[(numAt r.objs o.num).toNat]? = some ob → (pN ob : Int) ≤ o.stripe) ↔ ∀ ob, r.objs[(numAt r.objs o.num).toNat]? = some ob → (pN ob : Int) ≤ o.stripe := by
    constructor
    · intro hh b hb
      obtain ⟨a, ha, hv⟩ := view_at h.eqv.objs.symm hb
      have h2 := hh a ha
      rw [← h.tp a (List.mem_of_getElem? ha)] at h2
      rw [← h.rp b (List.mem_of_getElem? hb), rows_len hv]
      exact h2
    · intro hh a ha
      obtain ⟨b, hb, hv⟩ := view_at h.eqv.objs ha
      have h2 := hh b hb
      rw [← h.rp b (List.mem_of_getElem? hb)] at h2
      rw [← h.tp a (List.mem_of_getElem? ha), rows_len hv]
      exact h2
  rw [h1]
theorem moveC_eq {sl nd : Nat} {t r : Tb} {o : Op} (h : Both t r) : moveC sl nd t o = moveC sl nd r o := by
  unfold moveC toRow
  exact if_iff (badMove_eq h) rfl (if_iff (by rw [rowOf_eq h.eqv]) rfl (if_iff (by rw [rowOf_eq h.eqv]) rfl rfl))
theorem map_set_view {l : List Obj} {k : Nat} {x : Obj} : (l.set k x).map view = (l.map view).set k (view x) := List.map_set
theorem sim_move {sl nd : Nat} {t r t' r' : Tb} {o : Op} (h : Both t r) (ht : MoveR sl nd t o (moveC sl nd t o) t') (hr : MoveR sl nd r o (moveC sl nd r o) r') : Eqv t' r' ∧ Sorted t'.objs := by
  have hc := moveC_eq (sl := sl) (nd := nd) (o := o) h
  by_cases h0 : moveC sl nd r o = 0
  · obtain ⟨k, ob, ob', h1, h2, _, h3, h4, h5, h6⟩ := ht.2 (by rw [hc]; exact h0)
    obtain ⟨k2, pb, pb', k1, k3, _, k4, k5, k6, k7⟩ := hr.2 h0
    have hk : k = k2 := by
      have := h.eqv.num o.num
      rw [h1, k1] at this
      omega
    subst hk
    obtain ⟨pb2, hp2, hv⟩ := view_at h.eqv.objs h2
    rw [k3] at hp2
    cases hp2
    have hnb : ¬ badMove sl t o := fun hb => by
      unfold moveC at h0
      rw [if_pos ((badMove_eq h).1 hb)] at h0
      cases h0
    have hj : o.stripe.toNat < (rows ob).length := by
      rcases Nat.lt_or_ge o.stripe.toNat (rows ob).length with h7 | h7
      · exact h7
      · exfalso
        refine hnb ?_
        by_cases h8 : o.stripe < 0
        · exact .inr (.inl h8)
        · refine .inr (.inr (.inl fun x hx => ?_))
          rw [h1] at hx
          have hx : t.objs[k]? = some x := hx
          rw [h2] at hx
          cases hx
          rw [← h.tp ob (List.mem_of_getElem? h2)]
          omega
    have hvv : view ob' = view pb' := by
      rw [view_moved h3 hj, view_moved k4 (by rw [← rows_len hv]; exact hj), hv]
    have hmap : t'.objs.map view = r'.objs.map view := by rw [h6, k7, map_set_view, map_set_view, h.eqv.objs, hvv]
    have hnames : t'.objs.map name = t.objs.map name := by
      rw [h6, List.map_set, h3.name]
      apply List.ext_getElem?
      intro i
      rcases Decidable.em (i = k) with hi | hi
      · subst hi
        rw [List.getElem?_set, List.getElem?_map, h2]
        simp [(List.getElem?_eq_some_iff.1 h2).1]
      · rw [List.getElem?_set_ne (Ne.symm hi)]
    refine ⟨⟨by rw [h4, k5]; exact h.eqv.nx, by rw [h5, k6]; exact h.eqv.ls, hmap⟩, ?_⟩
    have hq : (t'.objs.map name).Pairwise fun a b => cmpS a b < 0 := by
      rw [hnames, List.pairwise_map]
      exact h.sorted
    rw [List.pairwise_map] at hq
    exact hq
  · rw [ht.1 (by rw [hc]; exact h0), hr.1 h0]
    exact ⟨h.eqv, h.sorted⟩
/-- An operation is answered alike, and both say the same behind it. -/
theorem sim_apply {sl nd : Nat} {t r t' r' : Tb} {o : Op} {A : Option Addr} {c : Nat} {l : List Row} {w : World} (h : Both t r) (hs : Same o.rows l) (ht : ApplyR sl nd t (withRows o A c l) w t') (hr : RApplyR sl nd r o r') :
    applyC sl nd t (withRows o A c l) = rApplyC sl nd r o ∧ Eqv t' r' ∧ Sorted t'.objs := by
  have e0 : (withRows o A c l).kind = o.kind := rfl
  unfold ApplyR at ht
  unfold RApplyR at hr
  unfold applyC rApplyC
  rw [e0] at ht ⊢
  by_cases h1 : o.kind = 1
  · rw [if_pos h1] at ht hr ⊢
    rw [if_pos h1]
    have hb : beginC t.nx (withRows o A c l) = beginC r.nx o := by rw [h.eqv.nx]; rfl
    rw [hb] at ht ⊢
    refine ⟨rfl, ?_⟩
    subst ht hr
    split
    · exact ⟨⟨by show t.nx + 1 = r.nx + 1; rw [h.eqv.nx], h.eqv.ls, h.eqv.objs⟩, h.sorted⟩
    · exact ⟨h.eqv, h.sorted⟩
  rw [if_neg h1] at ht hr ⊢
  rw [if_neg h1]
  by_cases h2 : o.kind = 2
  · rw [if_pos h2] at ht hr ⊢
    rw [if_pos h2]
    exact ⟨commitC_eq h hs, sim_commit h hs ht hr⟩
  rw [if_neg h2] at ht hr ⊢
  rw [if_neg h2]
  by_cases h3 : o.kind = 3
  · rw [if_pos h3] at ht hr ⊢
    rw [if_pos h3]
    have hq := sim_remove (s := o.name) h ht hr
    refine ⟨?_, hq.1, hq.2.1⟩
    unfold removeC rRemoveC
    have hq3 := hq.2.2
    show (if there t.objs o.name = true then (0 : Int) else 6) = _
    by_cases hn : nameAt r.objs o.name < 0
    · rw [if_neg (fun k => hq3.1 k hn), if_pos hn]
    · rw [if_pos (hq3.2 hn), if_neg hn]
  rw [if_neg h3] at ht hr ⊢
  rw [if_neg h3]
  by_cases h4 : o.kind = 4
  · rw [if_pos h4] at ht hr ⊢
    rw [if_pos h4]
    have ht' : MoveR sl nd t o (moveC sl nd t o) t' := by
      refine ⟨ht.1, fun h0 => ?_⟩
      obtain ⟨k, ob, ob', q1, q2, q3, q4, q5, q6, q7⟩ := ht.2 h0
      exact ⟨k, ob, ob', q1, q2, q3, ⟨q4.num, q4.name, q4.plan, q4.n, q4.len, q4.each⟩, q5, q6, q7⟩
    exact ⟨moveC_eq h, sim_move h ht' hr⟩
  · rw [if_neg h4] at ht hr ⊢
    rw [if_neg h4]
    subst ht hr
    exact ⟨rfl, h.eqv, h.sorted⟩
end Go.Proofs.Ytfhgjopoohfhjaa.Tbl
