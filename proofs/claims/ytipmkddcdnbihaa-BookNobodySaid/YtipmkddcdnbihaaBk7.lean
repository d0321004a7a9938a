/- Texts put together: BookP, PackB, BookPl, BookOp, BookParse, BookA, BookCopy, BookB, BookD. Contracts and plain facts, no condition but what each says. -/
import Derived.Deep.RegionHeld3
import Derived.Deep.CutBlock
import Derived.Test.YtipmkddcdnbihaaBk6
/- Operations in a book, out of memory: their bytes, what these say, and what a table has come through. No program in sight. -/
namespace Go.Proofs.Ytipmkddcdnbihaa.Bk
open Go.RowKit Base Step Vec Shape Erase Tbl
open DiaryKeepsP (frames Fine)
theorem drop_at {α : Type} {l : List α} {k : Nat} {x : α} (h : l[k]? = some x) : l.drop k = x :: l.drop (k + 1) := by
  obtain ⟨h1, h2⟩ := List.getElem?_eq_some_iff.1 h
  rw [List.drop_eq_getElem_cons h1, h2]
theorem take_at {α : Type} {l : List α} {k : Nat} {x : α} (h : l[k]? = some x) : l.take (k + 1) = l.take k ++ [x] := by
  obtain ⟨h1, h2⟩ := List.getElem?_eq_some_iff.1 h
  rw [List.take_add_one, h]
  rfl
theorem set_mid {α : Type} {l m : List α} {x y : α} {k : Nat} (h : l.length = k) : (l ++ x :: m).set k y = (l ++ [y]) ++ m := by
  rw [List.set_append_right _ _ (by omega), show k - l.length = 0 by omega]
  simp
/-- A row's bytes in a book. -/
def rowK (r : Row) : List Int := Le.le 1 (rN r) ++ rowB r
def comB (o : Tbl.Op) : List Int := Le.le 1 2 ++ Le.le 4 o.num ++ textB o.name ++ Le.le 4 o.l ++ Le.le 2 o.p ++ Le.le 1 o.n
/-- An operation's bytes. -/
def opB (o : Tbl.Op) : List Int :=
  if o.kind = 1 then Le.le 1 1 ++ Le.le 4 o.num
  else if o.kind = 2 then comB o ++ o.rows.flatMap rowK
  else if o.kind = 3 then Le.le 1 3 ++ textB o.name
  else Le.le 1 4 ++ Le.le 4 o.num ++ Le.le 1 o.stripe ++ Le.le 1 o.slot ++ Le.le 1 o.node ++ Le.le 4 o.gen
/-- An operation whose bytes say all of it. -/
structure Fit (sl : Nat) (o : Tbl.Op) : Prop where
  kind : o.kind = 1 ∨ o.kind = 2 ∨ o.kind = 3 ∨ o.kind = 4
  num : 0 ≤ o.num ∧ o.num < 4294967296
  name : o.kind = 2 ∨ o.kind = 3 → o.name.size ≤ 64
  c2 : o.kind = 2 → 0 ≤ o.l ∧ o.l ≤ 16384 ∧ 1 ≤ o.p ∧ o.p ≤ 256 ∧ o.c = o.n ∧ o.n ≤ 32 ∧ o.rows.length = o.n
  rows : o.kind = 2 → ∀ r ∈ o.rows, (rP r).length = rN r ∧ rN r ≤ sl ∧ ∀ p ∈ rP r, 0 ≤ node p ∧ node p < 32 ∧ 0 ≤ gen p ∧ gen p < 4294967296
  c4 : o.kind = 4 → 0 ≤ o.stripe ∧ o.stripe < 32 ∧ 0 ≤ o.slot ∧ o.slot < 24 ∧ 0 ≤ o.node ∧ o.node < 32 ∧ 0 ≤ o.gen ∧ o.gen < 4294967296
theorem fit_of {sl nd gt : Nat} {t t' : Tb} {o : Tbl.Op} {w w0 W : World} (ho : OpAt w o) (ht : TbAt W gt sl nd t) (hf : ∀ ob ∈ t.objs, FineO nd sl ob) (hsl : sl ≤ 24) (hnd : nd ≤ 32) (hc : applyC sl nd t o = 0) (hr : ApplyR sl nd t o w0 t') : Fit sl o := by
  have hnum := wf_u32 ho.num
  have hgen := wf_u32 ho.gen
  unfold applyC at hc
  unfold ApplyR at hr
  by_cases h1 : o.kind = 1
  · exact ⟨.inl h1, hnum, fun k => by omega, fun k => by omega, fun k => by omega, fun k => by omega⟩
  rw [if_neg h1] at hc hr
  by_cases h2 : o.kind = 2
  · rw [if_pos h2] at hc hr
    obtain ⟨hn, hp, _⟩ := hr.2 hc
    have hl : o.rows.length = o.n := (sl_len ho.rows).1
    have h5 := hp.n
    have h6 := hp.c1
    refine ⟨.inr (.inl h2), hnum, fun _ => hn.few, fun _ => ⟨hp.l0, hp.l1, hp.p0, hp.p1, hp.n.symm, by omega, hl⟩, fun _ r hrm => ?_, fun k => by omega⟩
    have hfr := fine_rows ho.rows r hrm
    have hri := hp.rows r hrm
    refine ⟨hfr.1, by rw [← hfr.1, hri.all]; exact Nat.le_refl _, fun p hpm => ?_⟩
    have := hri.on p hpm
    exact ⟨this.1, by omega, hfr.2 p hpm⟩
  rw [if_neg h2] at hc hr
  by_cases h3 : o.kind = 3
  · rw [if_pos h3] at hc hr
    unfold removeC at hc
    refine ⟨.inr (.inr (.inl h3)), hnum, fun _ => ?_, fun k => by omega, fun k => by omega, fun k => by omega⟩
    have hth : there t.objs o.name = true := by
      cases hh : there t.objs o.name with
      | true => rfl
      | false => rw [hh] at hc; simp at hc
    obtain ⟨ob, h4, h5⟩ := there_at hth
    have := (hf ob (List.mem_of_getElem? h4)).nm
    rw [cmpS_zero.1 h5] at this
    exact this
  rw [if_neg h3] at hc hr
  by_cases h4 : o.kind = 4
  · rw [if_pos h4] at hc hr
    obtain ⟨k, ob, ob', hk, hob, hright, hm, _⟩ := hr.2 hc
    have hb : ¬ badMove sl t o := fun h => by
      unfold moveC at hc
      rw [if_pos h] at hc
      cases hc
    have hb2 : ¬ (numAt t.objs o.num < 0) ∧ ¬ (o.stripe < 0) ∧ ¬ (∀ ob, t.objs[(numAt t.objs o.num).toNat]? = some ob → (pN ob : Int) ≤ o.stripe) ∧ ¬ (o.slot < 0) ∧ ¬ ((sl : Int) ≤ o.slot) :=
      ⟨fun h => hb (.inl h), fun h => hb (.inr (.inl h)), fun h => hb (.inr (.inr (.inl h))), fun h => hb (.inr (.inr (.inr (.inl h)))), fun h => hb (.inr (.inr (.inr (.inr h))))⟩
    obtain ⟨b1, b2, b3, b4, b5⟩ := hb2
    have hobf := hf ob (List.mem_of_getElem? hob)
    have hst : o.stripe < (pN ob : Int) := by
      rcases Int.lt_or_le o.stripe (pN ob) with h | h
      · exact h
      · refine absurd (fun ob2 h2 => ?_) b3
        rw [hk] at h2
        have h2 : t.objs[k]? = some ob2 := h2
        rw [hob] at h2
        cases h2
        exact h
    have hlen := hright.all
    have hslot : o.slot.toNat < (toRow t o).length := by rw [hlen]; omega
    have hin : pl o.node o.gen ∈ toRow t o := by
      have h7 : (rowOf t o).length = (toRow t o).length := by unfold toRow; rw [List.length_set]
      have : (toRow t o)[o.slot.toNat]? = some (pl o.node o.gen) := by
        unfold toRow
        rw [List.getElem?_set]
        simp [show o.slot.toNat < (rowOf t o).length by omega]
      exact List.mem_of_getElem? this
    have hon := hright.on _ hin
    have e1 : node (pl o.node o.gen) = o.node := rfl
    rw [e1] at hon
    have h8 := hobf.rws
    exact ⟨.inr (.inr (.inr h4)), hnum, fun k => by omega, fun k => by omega, fun k => by omega, fun _ => ⟨by omega, by omega, by omega, by omega, hon.1, by omega, hgen.1, hgen.2⟩⟩
  · rw [if_neg h4] at hc
    cases hc
/-- An operation without rows that its kind does not have. -/
def norm (o : Tbl.Op) : Tbl.Op := if o.kind = 2 then o else { o with A := none, n := 0, cap := 0, rows := [] }
theorem norm_kind (o : Tbl.Op) : (norm o).kind = o.kind := by unfold norm; split <;> rfl
theorem norm_two {o : Tbl.Op} (h : o.kind = 2) : norm o = o := by unfold norm; rw [if_pos h]
theorem norm_bytes (o : Tbl.Op) : opB (norm o) = opB o := by
  unfold norm
  split
  · rfl
  · rename_i h
    unfold opB
    by_cases h1 : o.kind = 1
    · rw [if_pos h1, if_pos h1]
    rw [if_neg h1, if_neg h1, if_neg h, if_neg h]
theorem norm_fit {sl : Nat} {o : Tbl.Op} (h : Fit sl o) : Fit sl (norm o) := by
  by_cases h2 : o.kind = 2
  · rw [norm_two h2]; exact h
  · unfold norm
    rw [if_neg h2]
    exact ⟨h.kind, h.num, h.name, fun k => absurd k h2, fun k => absurd k h2, h.c4⟩
theorem norm_at {w : World} {o : Tbl.Op} (h : OpAt w o) : OpAt w (norm o) := by
  by_cases h2 : o.kind = 2
  · rw [norm_two h2]; exact h
  · unfold norm
    rw [if_neg h2]
    exact ⟨h.num, h.name, h.l, h.c, h.p, ⟨rfl, Nat.le_refl _, by simp [maxLen], fun _ => rfl, fun i x hx => (by cases hx)⟩, Nat.zero_le _, fun r hr => (by cases hr), h.gen, h.node⟩
theorem norm_r {sl nd : Nat} {t t' : Tb} {o : Tbl.Op} (h : RApplyR sl nd t o t') : RApplyR sl nd t (norm o) t' ∧ rApplyC sl nd t (norm o) = rApplyC sl nd t o := by
  by_cases h2 : o.kind = 2
  · rw [norm_two h2]
    exact ⟨h, rfl⟩
  · have hk := norm_kind o
    unfold norm at hk ⊢
    rw [if_neg h2] at hk ⊢
    unfold RApplyR rApplyC at *
    by_cases h1 : o.kind = 1
    · rw [if_pos h1] at h
      rw [if_pos (hk.trans h1), if_pos (hk.trans h1), if_pos h1]
      exact ⟨h, rfl⟩
    rw [if_neg h1, if_neg h2] at h
    have hk1 : ¬ ({ o with A := none, n := 0, cap := 0, rows := [] } : Tbl.Op).kind = 1 := fun e => h1 (hk.symm.trans e)
    have hk2 : ¬ ({ o with A := none, n := 0, cap := 0, rows := [] } : Tbl.Op).kind = 2 := fun e => h2 (hk.symm.trans e)
    rw [if_neg hk1, if_neg hk1, if_neg hk2, if_neg hk2, if_neg h1, if_neg h2]
    by_cases h3 : o.kind = 3
    · rw [if_pos h3] at h
      rw [if_pos (hk.trans h3), if_pos (hk.trans h3), if_pos h3]
      exact ⟨h, rfl⟩
    have hk3 : ¬ ({ o with A := none, n := 0, cap := 0, rows := [] } : Tbl.Op).kind = 3 := fun e => h3 (hk.symm.trans e)
    rw [if_neg h3] at h
    rw [if_neg hk3, if_neg hk3, if_neg h3]
    by_cases h4 : o.kind = 4
    · rw [if_pos h4] at h
      rw [if_pos (hk.trans h4), if_pos (hk.trans h4), if_pos h4]
      refine ⟨⟨h.1, fun hc => ?_⟩, rfl⟩
      obtain ⟨k, ob, ob', k1, k2, k3, k4, k5, k6, k7⟩ := h.2 hc
      exact ⟨k, ob, ob', k1, k2, k3, ⟨k4.num, k4.name, k4.plan, k4.n, k4.len, k4.each⟩, k5, k6, k7⟩
    have hk4 : ¬ ({ o with A := none, n := 0, cap := 0, rows := [] } : Tbl.Op).kind = 4 := fun e => h4 (hk.symm.trans e)
    rw [if_neg h4] at h
    rw [if_neg hk4, if_neg hk4, if_neg h4]
    exact ⟨h, rfl⟩
/-- Operations of which the same comes. -/
structure Like2 (o o' : Tbl.Op) : Prop where
  kind : o'.kind = o.kind
  n : o'.n = o.n
  rows : Same o.rows o'.rows
  c1 : o.kind = 1 → o'.num = o.num
  c2 : o.kind = 2 → o'.num = o.num ∧ o'.name = o.name ∧ o'.l = o.l ∧ o'.p = o.p ∧ o'.c = o.c
  c3 : o.kind = 3 → o'.name = o.name
  c4 : o.kind = 4 → o'.num = o.num ∧ o'.stripe = o.stripe ∧ o'.slot = o.slot ∧ o'.node = o.node ∧ o'.gen = o.gen
theorem planOk_like {sl nd : Nat} {o o' : Tbl.Op} (h1 : o'.l = o.l) (h2 : o'.p = o.p) (h3 : o'.c = o.c) (h4 : o'.n = o.n) (h5 : o'.rows = o.rows) (k : PlanOk sl nd o) : PlanOk sl nd o' :=
  ⟨by rw [h1]; exact k.l0, by rw [h1]; exact k.l1, by rw [h3]; exact k.c0, by rw [h3]; exact k.c1, by rw [h2]; exact k.p0, by rw [h2]; exact k.p1, by rw [h4, h3]; exact k.n, by rw [h5]; exact k.rows⟩
/-- Such an operation does what the other one does, with its rows. -/
theorem like_apply {sl nd : Nat} {t t' : Tb} {o o' : Tbl.Op} {w : World} (h : Like2 o o') (hr : ApplyR sl nd t o' w t') :
    ApplyR sl nd t (withRows o o'.A o'.cap o'.rows) w t' ∧ applyC sl nd t (withRows o o'.A o'.cap o'.rows) = applyC sl nd t o' := by
  obtain ⟨q, hq⟩ : ∃ q, q = withRows o o'.A o'.cap o'.rows := ⟨_, rfl⟩
  have e0 : q.kind = o.kind := by rw [hq]; rfl
  have e1 : q.num = o.num := by rw [hq]; rfl
  have e2 : q.name = o.name := by rw [hq]; rfl
  have e3 : q.l = o.l := by rw [hq]; rfl
  have e4 : q.c = o.c := by rw [hq]; rfl
  have e5 : q.p = o.p := by rw [hq]; rfl
  have e6 : q.n = o.n := by rw [hq]; rfl
  have e7 : q.rows = o'.rows := by rw [hq]; rfl
  have e8 : q.stripe = o.stripe := by rw [hq]; rfl
  have e9 : q.slot = o.slot := by rw [hq]; rfl
  have e10 : q.node = o.node := by rw [hq]; rfl
  have e11 : q.gen = o.gen := by rw [hq]; rfl
  rw [← hq]
  unfold ApplyR at hr ⊢
  unfold applyC
  rw [h.kind] at hr ⊢
  rw [e0]
  by_cases h1 : o.kind = 1
  · have e : beginC t.nx q = beginC t.nx o' := by
      unfold beginC
      rw [h.c1 h1, e1]
    rw [if_pos h1] at hr
    rw [if_pos h1, if_pos h1, if_pos h1, e]
    exact ⟨hr, rfl⟩
  rw [if_neg h1] at hr
  rw [if_neg h1, if_neg h1, if_neg h1]
  by_cases h2 : o.kind = 2
  · obtain ⟨q1, q2, q3, q4, q5⟩ := h.c2 h2
    have hp : PlanOk sl nd q ↔ PlanOk sl nd o' := ⟨planOk_like (by rw [e3, q3]) (by rw [e5, q4]) (by rw [e4, q5]) (by rw [e6, h.n]) e7.symm, planOk_like (by rw [e3, q3]) (by rw [e5, q4]) (by rw [e4, q5]) (by rw [e6, h.n]) e7⟩
    have hcc : commitC sl nd t q = commitC sl nd t o' := by
      unfold commitC
      rw [e1, e2, q1, q2]
      exact if_iff (not_congr (and_congr Iff.rfl hp)) rfl rfl
    rw [if_pos h2] at hr
    rw [if_pos h2, if_pos h2, if_pos h2, hcc]
    refine ⟨⟨hr.1, fun hc => ?_⟩, rfl⟩
    obtain ⟨k1, k2, k3, k4, ob, k5, k6⟩ := hr.2 hc
    rw [e2, ← q2]
    refine ⟨k1, hp.2 k2, k3, by rw [k4, e1, q1], ob, ⟨by rw [k5.num, e1, q1], by rw [k5.name, e2, q2], by rw [k5.plan, q3, q4, q5, e3, e4, e5], by rw [k5.len, e7], fun i r r' hr => k5.alike i r r' (by rw [← e7]; exact hr)⟩, k6⟩
  rw [if_neg h2] at hr
  rw [if_neg h2, if_neg h2, if_neg h2]
  by_cases h3 : o.kind = 3
  · have q := h.c3 h3
    rw [if_pos h3] at hr
    rw [if_pos h3, if_pos h3, if_pos h3]
    unfold removeC
    rw [e2, ← q]
    exact ⟨hr, rfl⟩
  rw [if_neg h3] at hr
  rw [if_neg h3, if_neg h3, if_neg h3]
  by_cases h4 : o.kind = 4
  · obtain ⟨q1, q2, q3, q4, q5⟩ := h.c4 h4
    have er : rowOf t q = rowOf t o' := by
      unfold rowOf
      rw [e1, e8, q1, q2]
    have et : toRow t q = toRow t o' := by
      unfold toRow
      rw [er, e9, e10, e11, q3, q4, q5]
    have hb : badMove sl t q ↔ badMove sl t o' := by
      unfold badMove
      rw [e1, e8, e9, q1, q2, q3]
    have hm : moveC sl nd t q = moveC sl nd t o' := by
      unfold moveC
      rw [et, er, e9, e11, q3, q5]
      exact if_iff hb rfl rfl
    rw [if_pos h4] at hr
    rw [if_pos h4, if_pos h4, if_pos h4, hm]
    refine ⟨⟨hr.1, fun hc => ?_⟩, rfl⟩
    obtain ⟨k, ob, ob', k1, k2, k3, k4, k5, k6, k7⟩ := hr.2 hc
    refine ⟨k, ob, ob', by rw [e1, ← q1]; exact k1, k2, by rw [et]; exact k3, ⟨k4.num, k4.name, k4.plan, k4.n, k4.len, fun i r r' h1 h2 => ?_⟩, k5, k6, k7⟩
    rw [e8, e9, e10, e11, ← q2, ← q3, ← q4, ← q5]
    exact k4.each i r r' h1 h2
  · rw [if_neg h4] at hr
    rw [if_neg h4, if_neg h4, if_neg h4]
    exact ⟨hr, rfl⟩
theorem like_at {w W : World} {o o' : Tbl.Op} (h : Like2 o o') (ho : OpAt w o) (ho' : OpAt W o') : OpAt W (withRows o o'.A o'.cap o'.rows) :=
  ⟨ho.num, ho.name, ho.l, ho.c, ho.p, by have := ho'.rows; rw [h.n] at this; exact this, ho.few, ho'.each, ho.gen, ho.node⟩
/-- What a table has come through: f i is the document's table behind the first i operations. -/
structure Hist (sl nd : Nat) (os : List Tbl.Op) (f : Nat → Tb) : Prop where
  zero : f 0 = ⟨1, 0, none, 0, 0, []⟩
  step : ∀ i o, os[i]? = some o → RApplyR sl nd (f i) o (f (i + 1)) ∧ rApplyC sl nd (f i) o = 0 ∧ Fit sl o ∧ (∃ w, OpAt w o) ∧ ∃ V, Doc V (f (i + 1))
theorem Hist.nil (sl nd : Nat) : Hist sl nd [] fun _ => ⟨1, 0, none, 0, 0, []⟩ := ⟨rfl, fun i o h => by cases h⟩
theorem Hist.take {sl nd : Nat} {os : List Tbl.Op} {f : Nat → Tb} (h : Hist sl nd os f) (q : Nat) : Hist sl nd (os.take q) f :=
  ⟨h.zero, fun i o ho => h.step i o (by
    rw [List.getElem?_take] at ho
    split at ho
    · exact ho
    · cases ho)⟩
/-- One operation more. -/
theorem Hist.snoc {sl nd : Nat} {os : List Tbl.Op} {f : Nat → Tb} {o : Tbl.Op} {r' : Tb} {w V : World} (h : Hist sl nd os f) (hr : RApplyR sl nd (f os.length) o r') (hc : rApplyC sl nd (f os.length) o = 0) (hf : Fit sl o) (ho : OpAt w o) (hd : Doc V r') :
    Hist sl nd (os ++ [norm o]) (fun i => if i ≤ os.length then f i else r') := by
  refine ⟨by simp [h.zero], fun i p hp => ?_⟩
  rcases Nat.lt_or_ge i os.length with hi | hi
  · rw [List.getElem?_append_left hi] at hp
    have := h.step i p hp
    simp only [show i ≤ os.length by omega, show i + 1 ≤ os.length by omega, if_true]
    exact this
  · rw [List.getElem?_append_right hi] at hp
    have hi0 : i - os.length = 0 := by
      rcases Nat.eq_zero_or_pos (i - os.length) with h | h
      · exact h
      · rw [List.getElem?_eq_none (by simp; omega)] at hp; cases hp
    have hie : i = os.length := by omega
    subst hie
    rw [hi0] at hp
    simp at hp
    subst hp
    obtain ⟨h1, h2⟩ := norm_r hr
    simp only [Nat.le_refl, if_true, show ¬ os.length + 1 ≤ os.length by omega, if_false]
    exact ⟨h1, by rw [h2]; exact hc, norm_fit hf, ⟨w, norm_at ho⟩, V, hd⟩
theorem snoc_old {os : List Tbl.Op} {f : Nat → Tb} {r' : Tb} {i : Nat} (h : i ≤ os.length) : (fun i => if i ≤ os.length then f i else r') i = f i := by simp [h]
theorem snoc_new {os : List Tbl.Op} {o : Tbl.Op} {f : Nat → Tb} {r' : Tb} : (fun i => if i ≤ os.length then f i else r') (os ++ [o]).length = r' := by
  simp
  intro h
  omega
/-- A table that is done anew. -/
theorem redo {sl nd : Nat} {os : List Tbl.Op} {f : Nat → Tb} (h : Hist sl nd os f) {i : Nat} {o o' : Tbl.Op} (hi : os[i]? = some o) {t t' : Tb} {w W : World} {gt : Nat} (hg : Tbl.Good sl nd t (f i)) (hl : Like2 o o') (ho' : OpAt w o') (hr : ApplyR sl nd t o' w t') (hT : TbAt W gt sl nd t') :
    applyC sl nd t o' = 0 ∧ Tbl.Good sl nd t' (f (i + 1)) := by
  obtain ⟨h1, h2, _, ⟨w0, ho⟩, V, hd⟩ := h.step i o hi
  obtain ⟨k1, k2⟩ := like_apply hl hr
  obtain ⟨q1, q2⟩ := good_apply hg hl.rows (like_at hl ho ho') k1 h1 hT hd
  exact ⟨by rw [← k2, q1, h2], q2⟩
/-! bytes -/
theorem rowK_len {sl : Nat} {r : Row} (h1 : (rP r).length = rN r) (h2 : rN r ≤ sl) : (rowK r).length ≤ 1 + 5 * sl := by
  have h3 := flat_le_mul placeB 5 (rP r) fun p _ => by simp [placeB, Le.le_length]
  unfold rowK rowB
  rw [List.length_append, Le.le_length]
  omega
theorem opB_len {sl : Nat} {o : Tbl.Op} (h : Fit sl o) : (opB o).length ≤ 78 + 32 * (1 + 5 * sl) := by
  unfold opB
  split
  · simp [Le.le_length]; omega
  · split
    · rename_i h2
      have h3 := h.c2 h2
      have h4 := flat_le_mul rowK (1 + 5 * sl) o.rows fun r hr => rowK_len (h.rows h2 r hr).1 (h.rows h2 r hr).2.1
      have h5 := h.name (.inl h2)
      have h6 : o.rows.length * (1 + 5 * sl) ≤ 32 * (1 + 5 * sl) := Nat.mul_le_mul_right _ (by omega)
      have h7 := Nat.le_trans h4 h6
      have h8 : (comB o).length ≤ 78 := by
        simp [comB, textB, Le.le_length, bytesI_len]
        omega
      rw [List.length_append]
      omega
    · split
      · rename_i h3
        have h5 := h.name (.inr h3)
        simp [textB, Le.le_length, bytesI_len]
        omega
      · simp [Le.le_length]; omega
theorem placeB_u8 (p : plS.T) : Le.U8s (placeB p) := fun x hx => by
  unfold placeB at hx
  exact (List.mem_append.1 hx).elim (Le.le_u8 _ _ x) (Le.le_u8 _ _ x)
theorem textB_u8 (s : ByteArray) : Le.U8s (textB s) := fun x hx => by
  unfold textB at hx
  exact (List.mem_append.1 hx).elim (Le.le_u8 _ _ x) fun k => wf_u8 (bytesI_wf s x k)
theorem app_u8 {a b : List Int} (h : Le.U8s a) (k : Le.U8s b) : Le.U8s (a ++ b) := fun x hx => (List.mem_append.1 hx).elim (h x) (k x)
theorem flat_u8 {α : Type} {f : α → List Int} (h : ∀ a, Le.U8s (f a)) (l : List α) : Le.U8s (l.flatMap f) := fun x hx => by
  obtain ⟨a, _, k⟩ := List.mem_flatMap.1 hx
  exact h a x k
theorem rowK_u8 (r : Row) : Le.U8s (rowK r) := app_u8 (Le.le_u8 _ _) (flat_u8 placeB_u8 _)
theorem opB_u8 (o : Tbl.Op) : Le.U8s (opB o) := by
  unfold opB comB
  split
  · exact app_u8 (Le.le_u8 _ _) (Le.le_u8 _ _)
  · split
    · exact app_u8 (app_u8 (app_u8 (app_u8 (app_u8 (app_u8 (Le.le_u8 _ _) (Le.le_u8 _ _)) (textB_u8 _)) (Le.le_u8 _ _)) (Le.le_u8 _ _)) (Le.le_u8 _ _)) (flat_u8 rowK_u8 _)
    · split
      · exact app_u8 (Le.le_u8 _ _) (textB_u8 _)
      · exact app_u8 (app_u8 (app_u8 (app_u8 (app_u8 (Le.le_u8 _ _) (Le.le_u8 _ _)) (Le.le_u8 _ _)) (Le.le_u8 _ _)) (Le.le_u8 _ _)) (Le.le_u8 _ _)
theorem opB_wf (o : Tbl.Op) : ∀ x ∈ opB o, (Lit.int .u8 x).wf = true := fun x hx => u8_wf (opB_u8 o x hx).1 (opB_u8 o x hx).2
theorem opB_fine {sl : Nat} {o : Tbl.Op} (h : Fit sl o) (hsl : sl ≤ 24) : Fine (opB o) := ⟨opB_u8 o, by have := opB_len h; omega⟩
/-- A number is taken from the front. -/
theorem rn_app (k : Nat) (v : Int) (xs : List Int) (h0 : 0 ≤ v) (h1 : v < 256 ^ k) : Pack.rn k (Le.le k v ++ xs) = v ∧ Pack.rx k (Le.le k v ++ xs) = xs ∧ ∀ t, Pack.rt k (Le.le k v ++ xs) t = t := by
  have hl : (Le.le k v).length = k := Le.le_length k v
  have hk : k ≤ (Le.le k v ++ xs).length := by rw [List.length_append, hl]; omega
  unfold Pack.rn Pack.rx Pack.rt
  refine ⟨?_, ?_, fun t => by rw [if_pos hk]⟩
  · rw [if_pos hk, List.take_left' hl, Le.of_le_lt k v h0 h1]
  · rw [if_pos hk, List.drop_left' hl]
end Go.Proofs.Ytipmkddcdnbihaa.Bk
/- A reader over bytes that lie ahead of a block B: it reads on whatever is written from B on. -/
namespace Go.Proofs.Ytipmkddcdnbihaa.PackB
open Go.RowKit Base Pack
def ReaderB (w : World) (g B : Nat) (xs : List Int) (torn : Bool) : Prop := ∃ A n c, ReaderIs w g A n c xs torn ∧ ∀ ad, A = some ad → 0 < n → ad.block < B
theorem ReaderB.reader {w : World} {g B : Nat} {xs : List Int} {t : Bool} (h : ReaderB w g B xs t) : Reader w g xs t := by
  obtain ⟨A, n, c, h, _⟩ := h
  exact ⟨A, n, c, h⟩
theorem ReaderB.chg {w w' : World} {S : Nat → Prop} {g B : Nat} {xs : List Int} {t : Bool} (h : ReaderB w g B xs t) (hc : Chg S w w') (hS : ∀ i, S i → B ≤ i ∧ i ≠ g) : ReaderB w' g B xs t := by
  obtain ⟨A, n, c, h, hb⟩ := h
  refine ⟨A, n, c, ⟨hc.at_ h.at_ fun k => (hS _ k).2 rfl, h.rd.chg hc fun ad ha h0 k => ?_, h.room, h.none⟩, hb⟩
  have := hb ad ha h0
  have := (hS _ k).1
  omega
theorem ReaderB.ext {w w' : World} {g B : Nat} {xs : List Int} {t : Bool} (h : ReaderB w g B xs t) (he : Ext w w') : ReaderB w' g B xs t := by
  obtain ⟨A, n, c, h, hb⟩ := h
  exact ⟨A, n, c, ⟨he.at_ h.at_, h.rd.ext he, h.room, h.none⟩, hb⟩
theorem ReaderB.lt {w : World} {g B : Nat} {xs : List Int} {t : Bool} (h : ReaderB w g B xs t) : g < w.heap.size := by
  obtain ⟨A, n, c, h, hb⟩ := h
  exact lt_of_at h.at_
theorem readB_calls (A : Option Addr) (n c : Nat) (xs : List Int) (w : World) (hr : Rd w .u8 A n xs) (hc : n ≤ c) (h0 : A = none → c = 0) :
    Calls Try.prog 155 #[.slice A n c] w fun e w' => e = .returned (.pointer (some ⟨w.heap.size, 0, none⟩)) ∧ ReaderB w' w.heap.size w.heap.size xs false ∧ Ext w w' := by
  have HR := Lib.hid hr
  clear hr
  go_enter Try.func155, Try.ntmps155
  go_wp2
  go_ret
  exact ⟨rfl, ⟨A, n, c, ⟨at_new _ _, HR.out.below (below_new _ _), hc, h0⟩, fun ad ha hn => by subst ha; exact HR.out.lt hn⟩, below_new _ _⟩
set_option maxHeartbeats 400000 in
set_option maxRecDepth 100000 in
theorem rawB_calls (g B : Nat) (xs : List Int) (torn : Bool) (k : Int) (w : World) (hr : ReaderB w g B xs torn) (h0 : 0 ≤ k) (h1 : k ≤ xs.length) (hx : xs.length ≤ 1099511627776) :
    Calls Try.prog 214 #[.pointer (some ⟨g, 0, none⟩), .int .i64 k] w fun e w' => ∃ A c, e = .returned (.slice A k.toNat c) ∧ Own w' (fun i => w.heap.size ≤ i) 5 1 (.slice A k.toNat c) k.toNat (nums .u8 (xs.take k.toNat)) ∧
      ReaderB w' g B (xs.drop k.toNat) torn ∧ Chg (fun i => i = g) w w' := by
  obtain ⟨A1, n1, c1, hv1, hbb⟩ := hr
  have HBB := Lib.hid hbb
  clear hbb
  have hcell0 := cell0_of hv1.at_
  have hcell1 := cell1_of hv1.at_
  have hfree := free_of hv1.at_ 0
  have hlt : g < w.heap.size := lt_of_at hv1.at_
  have HV1 := Lib.hid hv1
  have hl := hv1.rd.len
  obtain rfl : xs.length = n1 := hl
  have hroom := hv1.room
  obtain ⟨k, rfl⟩ := Int.eq_ofNat_of_zero_le h0
  have hsl : Rd w .u8 A1 k (xs.take k) := rd_take hv1.rd (by omega)
  have hal : Below w.heap.size w (w.alloc (.cells #[] 5)) := (Below.refl _ _).alloc (Nat.le_refl _) _
  have HRA := Lib.hid (hsl.below hal)
  have hsz : (w.alloc (.cells #[] 5)).heap.size = w.heap.size + 1 := by simp
  have HSZ := Lib.hid hsz
  clear hv1 hsl hal hsz
  go_enter Try.func214, Try.ntmps214
  go_wp2_with (at_builtin; refine wpList_app _ rfl (.tmp 23) (.tmp 29) 55 rfl (fun i => w.heap.size ≤ i) 5 .u8 1 Try.underlying55 info_u8 (by decide) (.slice (some ⟨w.heap.size, 0, Option.none⟩) 0 0) 0 [] rfl ?c1 A1 k _ (xs.take k) rfl HRA.out ?c2 ?c3 ?_)
  case c1 => exact ⟨World.ownsRow_lit w #[] 0 (Nat.zero_le _) (by simp only [maxLen]; omega) rfl, by simp [Value.ownBlock]⟩
  case c2 => omega
  case c3 => intro i hi; have := HSZ.out; omega
  intro A2 c2 w2 ho2 hc2
  have HO2 := Lib.hid ho2
  have hc3 : Chg (fun _ => False) w w2 := ((Chg.refl _ _).alloc _).step hc2 fun i hi h => by simp [Value.ownBlock] at h; omega
  have HC3 := Lib.hid hc3
  have hb2 := hc3.at_ HV1.out.at_ (fun h => h)
  have HB2 := Lib.hid hb2
  have hcell20 := cell0_of hb2
  have hcell21 := cell1_of hb2
  have hfree2 := free_of hb2 0
  clear ho2 hc2 hc3 hb2
  go_wp2
  all_goals
    go_ret
    refine ⟨A2, c2, rfl, HO2.out.keep fun i hi => Below.heap_setCell _ _ _ _ fun e => HO2.out.ne HB2.out (by decide) (by rw [hi, e]), ?_, Chg.setCell (S := fun i => i = g) (HC3.out.mono fun _ _ h => h.elim) (p := ⟨g, 0, Option.none⟩) rfl _⟩
  · have : xs.length - k = 0 := by omega
    rw [this]
    refine ⟨A1, 0, 0, ⟨setCell_at0 HB2.out, ?_, Nat.le_refl _, fun _ => rfl⟩, fun _ _ h => absurd h (by omega)⟩
    rw [List.drop_eq_nil_of_le (by omega)]
    exact rd_nil _ _ _
  · refine ⟨_, _, _, ⟨setCell_at0 HB2.out, rd_setCell (rd_dropMap (HV1.out.rd.chg HC3.out fun _ _ _ h => h) (by omega)) _ ?_, by omega, ?_⟩, ?_⟩
    · intro ad e hn
      rcases A1 with _ | a1
      · cases e
      · cases e
        rw [block_add]
        exact HV1.out.apart a1 rfl (by omega)
    · intro e
      rcases A1 with _ | a1
      · have := HV1.out.none rfl; omega
      · cases e
    · intro ad e hn
      rcases A1 with _ | a1
      · cases e
      · cases e
        rw [block_add]
        exact HBB.out a1 rfl (by omega)
set_option maxHeartbeats 400000 in
set_option maxRecDepth 100000 in
/-- A number that is there. -/
theorem numB_calls (g B : Nat) (xs : List Int) (torn : Bool) (k : Nat) (v : Int) (w : World) (hr : ReaderB w g B (Le.le k v ++ xs) torn) (h8 : k ≤ 8) (hx : xs.length ≤ 1099511627000) (hv0 : 0 ≤ v) (hv1 : v < 256 ^ k) :
    Calls Try.prog 156 #[.pointer (some ⟨g, 0, none⟩), .int .i64 (k : Nat)] w fun e w' => e = .returned (.int .u64 v) ∧ ReaderB w' g B xs torn ∧ Chg (fun i => i = g) w w' := by
  obtain ⟨zs, hzs⟩ : ∃ zs, zs = Le.le k v ++ xs := ⟨_, rfl⟩
  have hle : (Le.le k v).length = k := Le.le_length k v
  have hzl : zs.length = k + xs.length := by rw [hzs, List.length_append, hle]
  have htk : zs.take k = Le.le k v := by rw [hzs, List.take_left' hle]
  have hdr : zs.drop k = xs := by rw [hzs, List.drop_left' hle]
  have hval : Le.of (Le.le k v) = v := Le.of_le_lt k v hv0 hv1
  rw [← hzs] at hr
  have HR := Lib.hid hr
  have HDR := Lib.hid hdr
  have HVAL := Lib.hid hval
  have HTK := Lib.hid htk
  clear hr hdr hval htk hzs hv1
  go_enter Try.func156, Try.ntmps156
  go_wp2_with fail
  refine (rawB_calls g B zs torn k w HR.out (by omega) (by omega) (by omega)).mono ?_
  rintro e w' ⟨A, c, rfl, ho, hrd, hc⟩
  rw [Int.toNat_natCast] at *
  rw [HDR.out] at hrd
  have HO := Lib.hid ho
  have HRD := Lib.hid hrd
  have HC := Lib.hid hc
  have hwf : ∀ x ∈ zs, (Lit.int .u8 x).wf = true := by obtain ⟨_, _, _, h, _⟩ := HR.out; exact h.rd.wf
  clear ho hrd hc
  have hro : Rd w' .u8 A k (zs.take k) := HO.out.rd (fun x hx => hwf x (List.mem_of_mem_take hx))
  have HRO := Lib.hid hro
  clear hro hwf
  generalize hys : zs.take k = ys at *
  have HYS : Hid (Le.of ys = v) := Lib.hid (by rw [HTK.out]; exact HVAL.out)
  clear hys HTK
  go_wp2
  go_loopw [5, 6, 7, 14] (fun n _ _ i wr => ∃ j : Nat, j ≤ k ∧ i = .int .i64 j ∧ n = .int .u64 (Le.of (ys.take j)) ∧ wr = w') (fun _ _ _ i _ => k - (intOf i).toNat)
  case atStart => exact ⟨0, Nat.zero_le _, rfl, rfl, rfl⟩
  case round =>
    obtain ⟨j, hj, rfl, rfl, rfl⟩ := hrel
    by_cases hlt : j < k
    · obtain ⟨ad, rfl, hcell⟩ := HRO.out.at_ hlt
      obtain ⟨hz0, hz1⟩ := wf_u8 (HRO.out.wfAt hlt)
      generalize hg : ys.getD j 0 = b at *
      have HG := Lib.hid hg
      clear hg
      have hb := Le.of_take_bound (fun x hx => wf_u8 (HRO.out.wf x hx)) HRO.out.len hj
      have hor := Le.or_step j (by omega) (Le.of (ys.take j)) b hb.1 hb.2 hz0 hz1
      have hsn := Le.of_snoc (ys.take j) b
      rw [← take_next HRO.out.len hlt HG.out, List.length_take, HRO.out.len, Nat.min_eq_left hj, ← hor] at hsn
      have HSN := Lib.hid hsn
      clear hb hor hsn
      go_wp2
      go_roundw
      case rel => exact ⟨j + 1, by omega, by go_num, by rw [HSN.out], trivial⟩
      case measure => simp [intOf]; omega
    · obtain rfl : j = k := by omega
      have ht : ys.take j = ys := List.take_of_length_le (by rw [HRO.out.len]; omega)
      have HT := Lib.hid ht
      clear ht
      go_wp2
      go_ret
      exact ⟨ret_int (by rw [HT.out, HYS.out]), HRD.out, HC.out⟩
set_option maxHeartbeats 400000 in
set_option maxRecDepth 100000 in
/-- A text that is there. -/
theorem textB_calls (g B : Nat) (xs ys : List Int) (torn : Bool) (w : World) (hr : ReaderB w g B (Le.le 2 ys.length ++ (ys ++ xs)) torn) (hx : xs.length ≤ 1099511626000) (hy : ys.length ≤ 1000) :
    Calls Try.prog 157 #[.pointer (some ⟨g, 0, none⟩)] w fun e w' => ∃ A c, e = .returned (.slice A ys.length c) ∧ New w w' 5 1 A ys.length c (nums .u8 ys) ∧
      ReaderB w' g B xs torn ∧ Chg (fun i => i = g) w w' := by
  have HR := Lib.hid hr
  have W0 : IntKind.i64.wrap ((ys.length : Nat) : Int) = ((ys.length : Nat) : Int) := IntWalk.i64_in _ (by omega)
  clear hr
  go_enter Try.func157, Try.ntmps157
  go_wp2_with fail
  refine (numB_calls g B (ys ++ xs) torn 2 (ys.length : Nat) w HR.out (by decide) (by rw [List.length_append]; omega) (by omega) (by omega)).mono ?_
  rintro e w1 ⟨rfl, hr1, hc1⟩
  have HR1 := Lib.hid hr1
  have HC1 := Lib.hid hc1
  clear hr1 hc1 HR
  go_wp2_with fail
  refine (rawB_calls g B (ys ++ xs) torn (ys.length : Nat) w1 HR1.out (by omega) (by rw [List.length_append]; omega) (by rw [List.length_append]; omega)).mono ?_
  rintro e w2 ⟨A, c, rfl, ho, hr2, hc2⟩
  rw [Int.toNat_natCast, List.take_left' rfl] at ho
  rw [Int.toNat_natCast, List.drop_left' rfl] at hr2
  have HO := Lib.hid ho
  have HR2 := Lib.hid hr2
  have HC2 := Lib.hid (HC1.out.trans hc2)
  have hs1 := HC1.out.size
  clear ho hr2 hc2
  go_wp2_with fail
  go_ret
  exact ⟨A, c, rfl, HO.out.mono fun i _ hi => Nat.le_trans hs1 hi, HR2.out, HC2.out⟩
end Go.Proofs.Ytipmkddcdnbihaa.PackB
/- Places, read out of a book's bytes: places; walked. -/
namespace Go.Proofs.Ytipmkddcdnbihaa.Bk
open Go.RowKit Base Step Vec Shape Erase Tbl PackB
/-- What a row of a book may be. -/
def FitR (sl : Nat) (r : Tbl.Row) : Prop := (rP r).length = rN r ∧ rN r ≤ sl ∧ ∀ p ∈ rP r, 0 ≤ node p ∧ node p < 32 ∧ 0 ≤ gen p ∧ gen p < 4294967296
/-- Rows like others, in new blocks, while a reader at block g reads. -/
structure Got (w wr : World) (g : Nat) (l done : List Tbl.Row) (k : Nat) (O : Option Addr) (oc : Nat) : Prop where
  len : done.length = k
  prow : New w wr 186 1 O k oc (cellsL rowS done)
  alike : ∀ (i : Nat) (r r' : Tbl.Row), l[i]? = some r → done[i]? = some r' → Tbl.Alike r r' ∧ Tbl.RowNew w wr r'
  chg : Chg (fun i => i = g) w wr
theorem Got.step {w wr w2 : World} {g : Nat} {S : Nat → Prop} {l done : List Tbl.Row} {k oc : Nat} {O : Option Addr} (h : Got w wr g l done k O oc) (hg : g < w.heap.size) (hc : Chg S wr w2) (hS : ∀ i, S i → i = g) : Got w w2 g l done k O oc :=
  ⟨h.len, h.prow.chg hc fun i hi k => by have hi : w.heap.size ≤ i := hi; have := hS i k; omega, fun i r r' h1 h2 => ⟨(h.alike i r r' h1 h2).1, (h.alike i r r' h1 h2).2.chg hc fun i hi k => by have hi : w.heap.size ≤ i := hi; have := hS i k; omega⟩, h.chg.step hc fun i _ k => hS i k⟩
theorem Got.ext {w wr w2 : World} {g : Nat} {l done : List Tbl.Row} {k oc : Nat} {O : Option Addr} (h : Got w wr g l done k O oc) (he : Ext wr w2) : Got w w2 g l done k O oc :=
  ⟨h.len, h.prow.extNew he, fun i r r' h1 h2 => ⟨(h.alike i r r' h1 h2).1, Own.extNew (h.alike i r r' h1 h2).2 he⟩, chg_ext h.chg he⟩
set_option maxRecDepth 100000 in
set_option maxHeartbeats 8000000 in
theorem places_calls (g B sl : Nat) (l : List Tbl.Row) (xs : List Int) (w : World) (hr : ReaderB w g B (Le.le 1 l.length ++ (l.flatMap rowK ++ xs)) false) (hB : B ≤ w.heap.size) (hl : l.length ≤ 32) (hf : ∀ r ∈ l, FitR sl r) (hsl : sl ≤ 24) (hx : xs.length ≤ 100000) :
    Calls Try.prog 158 #[.pointer (some ⟨g, 0, none⟩)] w fun e w' => ∃ A' c' l', e = .returned (.slice A' l.length c') ∧ Got w w' g l l' l.length A' c' ∧ ReaderB w' g B xs false := by
  have HR := Lib.hid hr
  have HF := Lib.hid hf
  have hgl := hr.lt
  have HLEN : Hid (∀ k, ((l.drop k).flatMap rowK ++ xs).length ≤ 200000) := Lib.hid fun k => by
    have h1 := flat_le_mul rowK 121 (l.drop k) fun r hrm => by
      have h2 := hf r (List.mem_of_mem_drop hrm)
      have := rowK_len h2.1 h2.2.1
      omega
    have h3 : (l.drop k).length ≤ 32 := by rw [List.length_drop]; omega
    have h4 : (l.drop k).length * 121 ≤ 32 * 121 := Nat.mul_le_mul_right _ h3
    rw [List.length_append]
    omega
  have hl0 := HLEN.out 0
  rw [List.drop_zero] at hl0
  clear hr hf
  go_enter Try.func158, Try.ntmps158
  go_wp2_with fail
  refine (numB_calls g B (l.flatMap rowK ++ xs) false 1 (l.length : Nat) w HR.out (by decide) (by omega) (by omega) (by omega)).mono ?_
  rintro e w1 ⟨rfl, hr1, hc1⟩
  have HR1 : Hid (ReaderB w1 g B ((l.drop 0).flatMap rowK ++ xs) false) := Lib.hid (by rw [List.drop_zero]; exact hr1)
  have HG0 : Hid (Got w w1 g l [] 0 none 0) := Lib.hid ⟨rfl, Own.nil _ _ _ _, fun i r r' _ h => (by simp at h), hc1⟩
  clear hr1 hc1 HR
  go_wp2_with fail
  go_loopg [3, 7] l.length (fun q v i wr => ∃ k O oc, k ≤ l.length ∧ q = l.length - k ∧ i = .int .u64 (k : Nat) ∧ v = .slice O k oc ∧ Hid (∃ done, Got w wr g l done k O oc) ∧ Hid (ReaderB wr g B ((l.drop k).flatMap rowK ++ xs) false))
  case atStart => exact ⟨0, none, 0, Nat.zero_le _, rfl, rfl, rfl, Lib.hid ⟨[], HG0.out⟩, HR1⟩
  case round =>
    clear HG0 HR1
    obtain ⟨k, O, oc, hk, rfl, rfl, rfl, hrel, HR⟩ := hrel
    obtain ⟨done, hm⟩ := hrel.out
    have HM := Lib.hid hm
    clear hrel hm
    by_cases hlt : k < l.length
    · obtain ⟨r, hr0⟩ : ∃ r, l[k]? = some r := ⟨_, List.getElem?_eq_getElem hlt⟩
      have hdr : (l.drop k).flatMap rowK = rowK r ++ (l.drop (k + 1)).flatMap rowK := by rw [drop_at hr0]; rfl
      obtain ⟨q1, q2, q3⟩ := HF.out r (List.mem_of_getElem? hr0)
      have HP3 := Lib.hid q3
      have HQ1 := Lib.hid q1
      have HR0 := Lib.hid hr0
      have hread : ReaderB wr g B (Le.le 1 (rN r : Nat) ++ ((rP r).flatMap placeB ++ ((l.drop (k + 1)).flatMap rowK ++ xs))) false := by
        have := HR.out
        rw [hdr] at this
        simpa [rowK, rowB] using this
      have HREAD := Lib.hid hread
      have hlp := HLEN.out (k + 1)
      have hl5 : ((rP r).flatMap placeB).length ≤ 120 := by
        have h1 := flat_le_mul placeB 5 (rP r) fun p _ => by simp [placeB, Le.le_length]
        omega
      have hki : ((k : Nat) : Int) < ((l.length : Nat) : Int) := by omega
      clear hread hdr hr0 q3 q1 HR
      go_wp2_with fail
      refine (numB_calls g B ((rP r).flatMap placeB ++ ((l.drop (k + 1)).flatMap rowK ++ xs)) false 1 (rN r : Nat) wr HREAD.out (by decide) (by rw [List.length_append]; omega) (by omega) (by omega)).mono ?_
      rintro e wo ⟨rfl, hr2, hc2⟩
      obtain ⟨Z, hZ⟩ : ∃ Z, Z = (l.drop (k + 1)).flatMap rowK ++ xs := ⟨_, rfl⟩
      rw [← hZ] at hr2 hlp
      have HZ := Lib.hid hZ
      have HR2 : Hid (ReaderB wo g B (((rP r).drop 0).flatMap placeB ++ Z) false) := Lib.hid (by rw [List.drop_zero]; exact hr2)
      have HMO : Hid (Got w wo g l done k O oc) := Lib.hid (HM.out.step hgl hc2 fun i hi => hi)
      have hwo : w.heap.size ≤ wo.heap.size := HMO.out.chg.size
      clear hr2 hc2 HREAD HM hZ
      go_wp2_with fail
      go_loopg [4, 11] (rN r) (fun q v i wi => ∃ m X cx, m ≤ rN r ∧ q = rN r - m ∧ i = .int .u64 (m : Nat) ∧ v = .slice X m cx ∧ Hid (Chg (fun i => i = g) wo wi ∧ New wo wi 80 2 X m cx (cellsL plS ((rP r).take m))) ∧ Hid (ReaderB wi g B (((rP r).drop m).flatMap placeB ++ Z) false))
      case atStart => exact ⟨0, none, 0, Nat.zero_le _, rfl, rfl, rfl, Lib.hid ⟨Chg.refl _ _, Own.nil _ _ _ _⟩, HR2⟩
      case round =>
        clear HR2
        obtain ⟨wi, hwi⟩ : ∃ wi, wi = wr := ⟨_, rfl⟩
        subst hwi
        obtain ⟨m, X, cx, hm, rfl, rfl, rfl, hrel2, HRI⟩ := hrel
        obtain ⟨hei, hxi⟩ := hrel2.out
        have HEI := Lib.hid hei
        have HXI := Lib.hid hxi
        have hsi : wo.heap.size ≤ wi.heap.size := hei.size
        clear hrel2 hei hxi
        by_cases hlt2 : m < rN r
        · obtain ⟨p, hp⟩ : ∃ p, (rP r)[m]? = some p := ⟨_, List.getElem?_eq_getElem (by have := HQ1.out; omega)⟩
          have HPP := Lib.hid (HP3.out p (List.mem_of_getElem? hp))
          have HP := Lib.hid hp
          have hrd : ReaderB wi g B (Le.le 1 (node p) ++ (Le.le 4 (gen p) ++ (((rP r).drop (m + 1)).flatMap placeB ++ Z))) false := by
            have := HRI.out
            rw [drop_at hp] at this
            simpa [placeB] using this
          have HRD := Lib.hid hrd
          have hlz : (((rP r).drop (m + 1)).flatMap placeB).length ≤ 120 := by
            have h1 := flat_le_mul placeB 5 ((rP r).drop (m + 1)) fun p _ => by simp [placeB, Le.le_length]
            rw [List.length_drop] at h1
            have := HQ1.out
            omega
          have hlz2 : (((rP r).drop (m + 1)).flatMap placeB ++ Z).length ≤ 300000 := by rw [List.length_append]; omega
          have W0 : IntKind.i64.wrap (node p) = node p := IntWalk.i64_in _ (by have := HPP.out; omega)
          have W1 : IntKind.u32.wrap (gen p) = gen p := IntWalk.u32_in _ (by have := HPP.out; omega)
          have hmi : ((m : Nat) : Int) < ((rN r : Nat) : Int) := by omega
          clear hp hrd HRI
          go_wp2_with fail
          refine (numB_calls g B (Le.le 4 (gen p) ++ (((rP r).drop (m + 1)).flatMap placeB ++ Z)) false 1 (node p) wi HRD.out (by decide) (by rw [List.length_append, Le.le_length]; omega) (by have := HPP.out; omega) (by have := HPP.out; omega)).mono ?_
          rintro e w5 ⟨rfl, hr5, hc5⟩
          have HR5 := Lib.hid hr5
          have HC5 := Lib.hid hc5
          clear hr5 hc5 HRD
          go_wp2_with fail
          refine (numB_calls g B (((rP r).drop (m + 1)).flatMap placeB ++ Z) false 4 (gen p) w5 HR5.out (by decide) (by omega) (by have := HPP.out; omega) (by have := HPP.out; omega)).mono ?_
          rintro e w6 ⟨rfl, hr6, hc6⟩
          have HR6 := Lib.hid hr6
          have HC6 := Lib.hid (HC5.out.trans hc6)
          have hs6 : wi.heap.size ≤ w6.heap.size := HC6.out.size
          have hx6 : New wo w6 80 2 X m cx (cellsL plS ((rP r).take m)) := HXI.out.chg HC6.out fun i hi k => by have hi : wo.heap.size ≤ i := hi; have k : i = g := k; omega
          have HX6 := Lib.hid hx6
          clear hr6 hc6 HR5 HC5 hx6
          go_wp2_with (at_builtin; refine wpList_appE _ rfl _ _ _ rfl (fun i => wo.heap.size ≤ i) 80 _ 2 16 Try.underlying186 infoPlc rfl (by decide) (by decide) _ m (cellsL plS ((rP r).take m)) rfl (HX6.out.extNew (Ext.new w6 _)) w6.heap.size 1 [.int .i64 (node p), .int .u32 (gen p)] rfl rfl (fun j u hu => blk_cell (at_new w6 _) (Ext.refl _) (by simpa using hu)) (by simp [Value.oneCell']) (by omega) (fun i hi => Nat.le_trans (Nat.le_trans hsi hs6) (Nat.le_trans (by simp) hi)) ?_; intro A2 c2 w12 ho12 hc12)
          have hcat : cellsL plS ((rP r).take m) ++ [.int .i64 (node p), .int .u32 (gen p)] = cellsL plS ((rP r).take (m + 1)) := by
            rw [List.take_add_one, HP.out, cellsL_app]
            rfl
          rw [hcat] at ho12
          have hfo : ∀ i, some i = (Value.slice X m cx).ownBlock → wo.heap.size ≤ i := fun i hi => HX6.out.foot i hi.symm
          have HR12 : Hid (ReaderB w12 g B (((rP r).drop (m + 1)).flatMap placeB ++ Z) false) := Lib.hid ((HR6.out.ext (Ext.new w6 _)).chg hc12 fun i hi => by have := hfo i hi.symm; omega)
          have HE12 : Hid (Chg (fun i => i = g) wo w12) := Lib.hid (((HEI.out.trans HC6.out).trans (Below.chg (Ext.new w6 _))).step hc12 fun i hi k => by have := hfo i k.symm; omega)
          have HO12 := Lib.hid ho12
          clear ho12 hc12 hcat hfo HR6 HC6 HX6
          go_wp2_with fail
          go_roundg (rN r - (m + 1))
          case measure => omega
          case rel => exact ⟨m + 1, A2, c2, by omega, rfl, by first | rfl | go_num, rfl, Lib.hid ⟨HE12.out, HO12.out⟩, HR12⟩
        · obtain rfl : m = rN r := by omega
          have hxi : New wo wi 80 2 X (rN r) cx (cellsL plS (rP r)) := by
            have := HXI.out
            rwa [List.take_of_length_le (by rw [HQ1.out]; exact Nat.le_refl _)] at this
          have HXF := Lib.hid hxi
          have HRZ : Hid (ReaderB wi g B Z false) := Lib.hid (by
            have := HRI.out
            rw [List.drop_of_length_le (by rw [HQ1.out]; exact Nat.le_refl _)] at this
            simpa using this)
          have HMI : Hid (Got w wi g l done k O oc) := Lib.hid (HMO.out.step hgl HEI.out fun i hi => hi)
          clear hxi HRI
          go_wp2_with (at_builtin; refine wpList_appE _ rfl _ _ _ rfl (fun i => w.heap.size ≤ i) 186 _ 1 24 Try.underlying78 infoRw rfl (by decide) (by decide) _ k (cellsL rowS done) rfl (HMI.out.prow.extNew (Ext.new wi _)) wi.heap.size 1 [.slice X (rN r) cx] rfl rfl (fun j u hu => blk_cell (at_new wi _) (Ext.refl _) (by simpa using hu)) (by simp [Value.oneCell']) (by omega) (fun i hi => Nat.le_trans (Nat.le_trans hwo hsi) (Nat.le_trans (by simp) hi)) ?_; intro A2 c2 w12 ho12 hc12)
          have hnew := Ext.new wi (.cells #[.slice X (rN r) cx] 186)
          have hka := fun (i : Nat) (hi : (Value.slice O k oc).ownBlock = some i) => own_kind (HMI.out.prow.extNew hnew) hi
          have hkk : ∀ i, (Value.slice O k oc).ownBlock = some i → i < (wi.alloc (.cells #[.slice X (rN r) cx] 186)).heap.size → ∃ c e' f, (wi.alloc (.cells #[.slice X (rN r) cx] 186)).heap[i]? = some (.cells c e' f) ∧ 80 ≠ e' := fun i hi _ => by
            obtain ⟨c, f, hh⟩ := hka i hi
            exact ⟨c, _, f, hh, by decide⟩
          have hcat : cellsL rowS done ++ [.slice X (rN r) cx] = cellsL rowS (done ++ [mkRow X (rN r) cx (rP r)]) := by rw [cellsL_app]; rfl
          rw [hcat] at ho12
          have hfo : ∀ i, (Value.slice O k oc).ownBlock = some i → w.heap.size ≤ i := fun i hi => HMI.out.prow.foot i hi
          have hgot : Got w w12 g l (done ++ [mkRow X (rN r) cx (rP r)]) (k + 1) A2 c2 := by
            refine ⟨by simp [HMI.out.len], ho12, fun i r0 r' h0 h1 => ?_, (HMI.out.chg.trans (Below.chg hnew)).step hc12 fun i hi k => by have := hfo i k; omega⟩
            rcases Nat.lt_or_ge i done.length with hi | hi
            · rw [List.getElem?_append_left hi] at h1
              obtain ⟨k1, k2⟩ := HMI.out.alike i r0 r' h0 h1
              exact ⟨k1, Own.kind (Own.extNew k2 hnew) hc12 hkk⟩
            · rw [List.getElem?_append_right hi] at h1
              have hz : i - done.length = 0 := by have := (List.getElem?_eq_some_iff.1 h1).1; simp at this; omega
              rw [hz] at h1
              have h1 : mkRow X (rN r) cx (rP r) = r' := by simpa using h1
              subst h1
              have hik : i = k := by have := HMI.out.len; omega
              subst hik
              rw [HR0.out] at h0
              cases h0
              refine ⟨⟨rfl, rfl⟩, ?_⟩
              have : New wo w12 80 2 X (rN r) cx (cellsL plS (rP r)) := Own.kind (HXF.out.extNew hnew) hc12 hkk
              exact this.mono fun i _ hi => Nat.le_trans hwo hi
          have HGOT := Lib.hid hgot
          have HRN : Hid (ReaderB w12 g B ((l.drop (k + 1)).flatMap rowK ++ xs) false) := Lib.hid (by
            rw [← HZ.out]
            exact (HRZ.out.ext hnew).chg hc12 fun i hi => by have := hfo i hi; omega)
          clear hgot ho12 hc12 hcat hkk hka hnew hfo
          go_wp2_with fail
          go_roundg (l.length - (k + 1))
          case measure => omega
          case rel => exact ⟨k + 1, A2, c2, by omega, rfl, by first | rfl | go_num, rfl, Lib.hid ⟨_, HGOT.out⟩, HRN⟩
    · obtain rfl : k = l.length := by omega
      have HRX : Hid (ReaderB wr g B xs false) := Lib.hid (by
        have := HR.out
        rw [List.drop_length] at this
        simpa using this)
      go_wp2_with fail
      go_ret
      exact ⟨O, oc, done, rfl, HM.out, HRX.out⟩
end Go.Proofs.Ytipmkddcdnbihaa.Bk
/- An operation's bytes, walked: Op. -/
namespace Go.Proofs.Ytipmkddcdnbihaa.Bk
open Go.RowKit Base Step Vec Shape Erase Tbl
theorem u64_id {n : Int} (h0 : 0 ≤ n) (h1 : n < 18446744073709551616) : IntKind.u64.wrap n = n := IntWalk.u64_in _ ⟨h0, by omega⟩
/-- What is known while an operation is written: its box bo, the writer's block g. -/
structure OpW (w W : World) (o : Tbl.Op) (bo g : Nat) (xs : List Int) : Prop where
  ext : Ext w W
  box : W.heap[bo]? = some (.cells (opC o) 82 (0, 0))
  wr : Pack.Writer W (fun i => g ≤ i) g xs
  lt : bo < g
  ge : w.heap.size ≤ g
  gs : g ≤ W.heap.size
set_option maxRecDepth 100000 in
set_option maxHeartbeats 16000000 in
theorem op_calls (o : Tbl.Op) (sl : Nat) (w : World) (ho : OpAt w o) (hf : Fit sl o) (hsl : sl ≤ 24) :
    Calls Try.prog 94 #[opV o] w fun e w' => Ext w w' ∧ ∃ A c, e = .returned (.slice A (opB o).length c) ∧ New w w' 5 1 A (opB o).length c (nums .u8 (opB o)) := by
  obtain ⟨Q, hQ⟩ : ∃ Q : Ending → World → Prop, Q = fun e w' => Ext w w' ∧ ∃ A c, e = .returned (.slice A (opB o).length c) ∧ New w w' 5 1 A (opB o).length c (nums .u8 (opB o)) := ⟨_, rfl⟩
  have HQ : Hid (∀ e w', Ext w w' → (∃ A c, e = .returned (.slice A (opB o).length c) ∧ New w w' 5 1 A (opB o).length c (nums .u8 (opB o))) → Q e w') := Lib.hid fun e w' h1 h2 => by rw [hQ]; exact ⟨h1, h2⟩
  rw [← hQ]
  clear hQ
  have hb := at_new w (.cells (opC o) 82)
  have he1 := Ext.new w (.cells (opC o) 82)
  have hs1 : (w.alloc (.cells (opC o) 82)).heap.size = w.heap.size + 1 := by simp
  have HS1 := Lib.hid hs1
  have HO := Lib.hid ho
  have HF := Lib.hid hf
  have hk0 : 1 ≤ o.kind ∧ o.kind ≤ 4 := by rcases hf.kind with h | h | h | h <;> omega
  have K0 : IntKind.u64.wrap o.kind = o.kind := u64_id (by omega) (by omega)
  have N0 : IntKind.u64.wrap o.num = o.num := u64_id hf.num.1 (by have := hf.num.2; omega)
  have HK0 := Lib.hid hk0
  clear ho hf hk0 hs1
  go_enter Try.func94, Try.ntmps94
  go_upto_region 1 with fail
  generalize w.alloc (.cells (opC o) 82) = w1 at *
  go_upto_region 2 with fail
  have hwr := Pack.writer_new (fun i => w1.heap.size ≤ i) w1 (Nat.le_refl _)
  have he2 := Ext.new w1 (.cells #[.slice none 0 0] 190)
  have hb2 := he2.at_ hb
  have hs2 : (w1.alloc (.cells #[.slice none 0 0] 190)).heap.size = w1.heap.size + 1 := by simp
  generalize w1.alloc (.cells #[.slice none 0 0] 190) = w2 at *
  have HE2 := Lib.hid (he1.trans he2)
  generalize hg : w1.heap.size = g at *
  have hbg : w.heap.size < g := by have := HS1.out; omega
  generalize hbo : w.heap.size = bo at *
  have b0 : w2.cell? ⟨bo, 0, none⟩ = some (.int .i64 o.kind) := blk_cell (i := 0) hb2 (Ext.refl _) rfl
  have HB2 := Lib.hid hb2
  have HS2 : Hid (g ≤ w2.heap.size) := Lib.hid (by omega)
  have HBG : Hid (w.heap.size ≤ g) := Lib.hid (by omega)
  clear hb hb2 he1 he2 hs2 hg hbo HS1
  go_wp2_with fail
  refine (Pack.num_calls (fun i => g ≤ i) g [] o.kind 1 w2 (fun i hi => Nat.le_trans HS2.out hi) hwr (by decide) (by decide) (by have := HK0.out; omega) (by have := HK0.out; omega) (by simp)).mono ?_
  rintro e w3 ⟨rfl, hw3, hc3⟩
  have HW : Hid (OpW w w3 o bo g (Le.le 1 o.kind)) := Lib.hid ⟨HE2.out.chg hc3 fun i hi => Nat.le_trans HBG.out hi, hc3.at_ HB2.out fun k => by have k : g ≤ bo := k; omega, by simpa using hw3, hbg, HBG.out, Nat.le_trans HS2.out hc3.size⟩
  clear hw3 hc3 hwr b0 HE2 HB2 HS2
  have c0 : w3.cell? ⟨bo, 0, none⟩ = some (.int .i64 o.kind) := blk_cell (i := 0) HW.out.box (Ext.refl _) rfl
  have c1 : w3.cell? ⟨bo, 1, none⟩ = some (.int .u32 o.num) := blk_cell (i := 1) HW.out.box (Ext.refl _) rfl
  have c2 : w3.cell? ⟨bo, 2, none⟩ = some (.string o.name) := blk_cell (i := 2) HW.out.box (Ext.refl _) rfl
  by_cases h1 : o.kind = 1
  · have hk : (o.kind == 1) = true := by simp [h1]
    have HKK := Lib.hid h1
    clear h1
    go_wp2_with fail
    refine (Pack.num_calls (fun i => g ≤ i) g (Le.le 1 o.kind) o.num 4 w3 (fun i hi => by have := HW.out.gs; omega) HW.out.wr (by decide) (by decide) HF.out.num.1 (by have := HF.out.num.2; omega) (by simp [Le.le_length])).mono ?_
    rintro e w4 ⟨rfl, hw4, hc4⟩
    have HW4 : Hid (Pack.Writer w4 (fun i => g ≤ i) g (opB o)) := Lib.hid (by
      unfold opB
      rw [if_pos HKK.out]
      have := hw4
      rw [HKK.out] at this
      exact this)
    have HX4 := Lib.hid (HW.out.ext.chg hc4 fun i hi => Nat.le_trans HBG.out hi)
    clear hw4 hc4 c0 c1 c2 HW
    go_wp2_with fail
    refine (Pack.bytes_calls (fun i => g ≤ i) g (opB o) w4 HW4.out (by have := opB_len HF.out; omega)).mono ?_
    rintro e w9 ⟨A9, c9, rfl, ho9, hb9⟩
    have HO9 := Lib.hid ho9
    have HB9 := Lib.hid hb9
    clear ho9 hb9
    go_wp2_with fail
    exact HQ.out _ _ (HX4.out.trans HB9.out) ⟨A9, c9, rfl, HO9.out.mono fun i _ hi => Nat.le_trans HX4.out.size hi⟩
  by_cases h2 : o.kind = 2
  · have hk1 : (o.kind == 1) = false := by simp [h1]
    have hk : (o.kind == 2) = true := by simp [h2]
    have HKK := Lib.hid h2
    have hfn := HF.out.name (.inl h2)
    obtain ⟨l0, l1, p0, p1, hcn, hn32, hrl⟩ := HF.out.c2 h2
    have HRW := Lib.hid (HF.out.rows h2)
    have HRL := Lib.hid hrl
    clear h1 h2 hrl
    obtain ⟨X0, hX0⟩ : ∃ X0, X0 = Le.le 1 o.kind := ⟨_, rfl⟩
    rw [← hX0] at HW
    have hXl0 : X0.length = 1 := by rw [hX0, Le.le_length]
    have HX0 : Hid (X0 = Le.le 1 2) := Lib.hid (by rw [hX0, HKK.out])
    clear hX0
    go_upto_region 8 with fail
    obtain ⟨f0, hf0⟩ : ∃ f0 : Nat → Prop, f0 = fun i => g ≤ i ∧ i < w3.heap.size := ⟨_, rfl⟩
    have hfw : Pack.Writer w3 f0 g X0 := by rw [hf0]; exact writer_mono HW.out.wr fun i hi k => ⟨k, hi⟩
    have hcellA : ∀ W, Chg f0 w3.drew W → W.heap[bo]? = some (.cells (opC o) 82 (0, 0)) := fun W hW => hW.at_ (i := bo) (show w3.drew.heap[bo]? = _ from HW.out.box) (by rw [hf0]; exact fun k => by omega)
    have z1 : ∀ W, Chg f0 w3.drew W → W.cell? ⟨bo, 1, none⟩ = some (.int .u32 o.num) := fun W hW => blk_cell (i := 1) (hcellA W hW) (Ext.refl _) rfl
    have z2 : ∀ W, Chg f0 w3.drew W → W.cell? ⟨bo, 2, none⟩ = some (.string o.name) := fun W hW => blk_cell (i := 2) (hcellA W hW) (Ext.refl _) rfl
    have z3 : ∀ W, Chg f0 w3.drew W → W.cell? ⟨bo, 3, none⟩ = some (.int .i64 o.l) := fun W hW => blk_cell (i := 3) (hcellA W hW) (Ext.refl _) rfl
    have z5 : ∀ W, Chg f0 w3.drew W → W.cell? ⟨bo, 5, none⟩ = some (.int .i64 o.p) := fun W hW => blk_cell (i := 5) (hcellA W hW) (Ext.refl _) rfl
    have z6 : ∀ W, Chg f0 w3.drew W → W.cell? ⟨bo, 6, none⟩ = some (.slice o.A o.n o.cap) := fun W hW => blk_cell (i := 6) (hcellA W hW) (Ext.refl _) rfl
    have W1 : IntKind.u64.wrap o.l = o.l := u64_id (by omega) (by omega)
    have W2 : IntKind.u64.wrap o.p = o.p := u64_id (by omega) (by omega)
    have W3 : IntKind.u64.wrap ((o.n : Nat) : Int) = ((o.n : Nat) : Int) := u64_id (by omega) (by omega)
    have HFW := Lib.hid hfw
    have HB0 : Hid (∀ i, f0 i → (fun i => g ≤ i) i ∧ i < w3.drew.heap.size) := Lib.hid (by rw [hf0]; exact fun i hi => hi)
    have HP0 : Hid (∀ W, Chg f0 w3.drew W → ∀ i, W.heap.size ≤ i → g ≤ i) := Lib.hid fun W hW i hi => Nat.le_trans HW.out.gs (Nat.le_trans hW.size hi)
    have HCB := Lib.hid hcellA
    clear hfw hf0 c0 c1 c2 hcellA
    refine Lex.wp_region_rw [0, 1, 2, 3, 4, 5, 6, 7, 8, 9, 10, 11, 12, 13, 14, 15, 16, 17, 18, 19, 20, 21, 22, 23] [] f0 24 (wrR (fun i => g ≤ i) g X0) (.pointer (some ⟨g, 0, none⟩)) [(4, 24), (8, 4), (13, 8), (18, 13), (23, 18)] [(4, wrR (fun i => g ≤ i) g (X0 ++ Le.le 4 o.num)), (7, rdR o.name.size (bytesI o.name)), (8, wrR (fun i => g ≤ i) g (X0 ++ Le.le 4 o.num ++ textB o.name)), (13, wrR (fun i => g ≤ i) g (X0 ++ Le.le 4 o.num ++ textB o.name ++ Le.le 4 o.l)), (18, wrR (fun i => g ≤ i) g (X0 ++ Le.le 4 o.num ++ textB o.name ++ Le.le 4 o.l ++ Le.le 2 o.p)), (23, wrR (fun i => g ≤ i) g (comB o))] (by kernel_rfl) (by kernel_rfl) (by kernel_rfl) (by repeat (first | exact Lex.ok_nilR | refine Lex.ok_consR (by first | exact Lex.rowR_ok | exact Tbl.wrR_ok | exact Tbl.rdR_ok | assumption) ?_)) (by first | exact Tbl.wrR_ok | exact Lex.rowR_ok) ⟨Pack.Writer.chg HFW.out (S' := fun _ => False) (Chg.drew (Chg.refl _ _)) (fun _ _ k => k), HB0.out⟩ (fun i hi => (HB0.out i hi).2) ?_; simp only [Lex.pick, List.getElem?_cons_succ, List.getElem?_cons_zero, List.map_cons, List.map_nil]
    repeat (first | (refine Lex.lexR_skip (by rfl) ?_; simp only [Act.put, List.setIfInBounds_toArray, List.set_cons_zero, List.set_cons_succ]) | (refine Lex.lexR_still (by rfl) (by rfl) ?_; apply Exists.intro; refine ⟨fun W hW => ?_, ?_⟩; (have hE := hW; clear hW; go_simp; try with_reducible rfl); simp only [Act.put, List.setIfInBounds_toArray, List.set_cons_zero, List.set_cons_succ]))
    refine Lex.lexR_loose (by rfl) (by rfl) (fun W hW hAP => ?_) ?_
    · obtain ⟨hwr, hbb⟩ := (hW.2 24 (by kernel_rfl) rfl).2 rfl
      have hP := HP0.out W hW.1
      clear hW hAP
      go_simp
      exact wr_call hbb (fun i hi => ⟨24, by simp, .inr ⟨rfl, hi⟩⟩) hP (num_w hwr (by decide) (by decide) HF.out.num.1 (by have := HF.out.num.2; omega) (by omega) rfl)
    rintro v f1 rfl
    simp only [Act.put, List.setIfInBounds_toArray, List.set_cons_zero, List.set_cons_succ]
    repeat (first | (refine Lex.lexR_skip (by rfl) ?_; simp only [Act.put, List.setIfInBounds_toArray, List.set_cons_zero, List.set_cons_succ]) | (refine Lex.lexR_still (by rfl) (by rfl) ?_; apply Exists.intro; refine ⟨fun W hW => ?_, ?_⟩; (have hE := hW; clear hW; go_simp; try with_reducible rfl); simp only [Act.put, List.setIfInBounds_toArray, List.set_cons_zero, List.set_cons_succ]))
    refine Lex.lexR_loose (by rfl) (by rfl) (fun W hW hAP => ?_) ?_
    · clear hW hAP
      obtain ⟨cc, W', hrun, he, hrd, hlt⟩ := conv_str W o.name (by omega)
      go_simp
      exact ⟨⟨_, _, rfl⟩, Below.chg he, fun i => i = W.heap.size, fun A c e => by cases e; exact ⟨hrd, fun ad ha _ => by cases ha; rfl⟩, fun i hi => .inl (by have hi : i = W.heap.size := hi; subst hi; exact ⟨Nat.le_refl _, hlt⟩)⟩
    rintro v f2 ⟨A2, c2, rfl⟩
    simp only [Act.put, List.setIfInBounds_toArray, List.set_cons_zero, List.set_cons_succ]
    refine Lex.lexR_loose (by rfl) (by rfl) (fun W hW hAP => ?_) ?_
    · obtain ⟨hwr, hbb⟩ := (hW.2 4 (by kernel_rfl) rfl).1.2 rfl
      obtain ⟨hrd, hrf⟩ := (hW.2 7 (by kernel_rfl) rfl).2 rfl _ _ rfl
      have hsep : ∀ i, f1 i → ¬ f2 i := fun i h1 h2 => hAP 4 7 i (by kernel_rfl) rfl (by kernel_rfl) rfl (by decide) (.inl (.inr ⟨rfl, h1⟩)) (.inr ⟨rfl, h2⟩)
      have hP := HP0.out W hW.1
      clear hW hAP
      go_simp
      refine wr_call hbb (fun i hi => ⟨4, by simp, .inl (.inr ⟨rfl, hi⟩)⟩) hP ((wtext_calls (fun i => f1 i ∨ W.heap.size ≤ i) g (X0 ++ Le.le 4 o.num) A2 o.name.size c2 (bytesI o.name) W (fun i hi => .inr hi) (writer_mono hwr fun _ _ k => .inl k) hrd (fun ad ha h0 hS => ?_) (by simp [Le.le_length]; omega) (by omega)).mono fun e w' he => by simpa only [List.append_assoc, textB] using he)
      rcases hS with hS | hS
      · exact hsep _ hS (hrf ad ha h0)
      · subst ha
        have h1 := hrd.lt h0
        omega
    rintro v f3 rfl
    simp only [Act.put, List.setIfInBounds_toArray, List.set_cons_zero, List.set_cons_succ]
    repeat (first | (refine Lex.lexR_skip (by rfl) ?_; simp only [Act.put, List.setIfInBounds_toArray, List.set_cons_zero, List.set_cons_succ]) | (refine Lex.lexR_still (by rfl) (by rfl) ?_; apply Exists.intro; refine ⟨fun W hW => ?_, ?_⟩; (have hE := hW; clear hW; go_simp; try with_reducible rfl); simp only [Act.put, List.setIfInBounds_toArray, List.set_cons_zero, List.set_cons_succ]))
    refine Lex.lexR_loose (by rfl) (by rfl) (fun W hW hAP => ?_) ?_
    · obtain ⟨hwr, hbb⟩ := (hW.2 8 (by kernel_rfl) rfl).2 rfl
      have hP := HP0.out W hW.1
      clear hW hAP
      go_simp
      exact wr_call hbb (fun i hi => ⟨8, by simp, .inr ⟨rfl, hi⟩⟩) hP (num_w hwr (by decide) (by decide) l0 (by omega) (by simp [Le.le_length, textB, bytesI_len]; omega) (by simp only [List.append_assoc]; rfl))
    rintro v f4 rfl
    simp only [Act.put, List.setIfInBounds_toArray, List.set_cons_zero, List.set_cons_succ]
    repeat (first | (refine Lex.lexR_skip (by rfl) ?_; simp only [Act.put, List.setIfInBounds_toArray, List.set_cons_zero, List.set_cons_succ]) | (refine Lex.lexR_still (by rfl) (by rfl) ?_; apply Exists.intro; refine ⟨fun W hW => ?_, ?_⟩; (have hE := hW; clear hW; go_simp; try with_reducible rfl); simp only [Act.put, List.setIfInBounds_toArray, List.set_cons_zero, List.set_cons_succ]))
    refine Lex.lexR_loose (by rfl) (by rfl) (fun W hW hAP => ?_) ?_
    · obtain ⟨hwr, hbb⟩ := (hW.2 13 (by kernel_rfl) rfl).2 rfl
      have hP := HP0.out W hW.1
      clear hW hAP
      go_simp
      exact wr_call hbb (fun i hi => ⟨13, by simp, .inr ⟨rfl, hi⟩⟩) hP (num_w hwr (by decide) (by decide) (by omega) (by omega) (by simp [Le.le_length, textB, bytesI_len]; omega) (by simp only [List.append_assoc]; rfl))
    rintro v f5 rfl
    simp only [Act.put, List.setIfInBounds_toArray, List.set_cons_zero, List.set_cons_succ]
    repeat (first | (refine Lex.lexR_skip (by rfl) ?_; simp only [Act.put, List.setIfInBounds_toArray, List.set_cons_zero, List.set_cons_succ]) | (refine Lex.lexR_still (by rfl) (by rfl) ?_; apply Exists.intro; refine ⟨fun W hW => ?_, ?_⟩; (have hE := hW; clear hW; go_simp; try with_reducible rfl); simp only [Act.put, List.setIfInBounds_toArray, List.set_cons_zero, List.set_cons_succ]))
    refine Lex.lexR_loose (by rfl) (by rfl) (fun W hW hAP => ?_) ?_
    · obtain ⟨hwr, hbb⟩ := (hW.2 18 (by kernel_rfl) rfl).2 rfl
      have hP := HP0.out W hW.1
      clear hW hAP
      go_simp
      exact wr_call hbb (fun i hi => ⟨18, by simp, .inr ⟨rfl, hi⟩⟩) hP (num_w hwr (by decide) (by decide) (by omega) (by omega) (by simp [Le.le_length, textB, bytesI_len]; omega) (by simp [comB, HX0.out]))
    rintro v f6 rfl
    simp only [Act.put, List.setIfInBounds_toArray, List.set_cons_zero, List.set_cons_succ]
    repeat (first | (refine Lex.lexR_skip (by rfl) ?_; simp only [Act.put, List.setIfInBounds_toArray, List.set_cons_zero, List.set_cons_succ]) | (refine Lex.lexR_still (by rfl) (by rfl) ?_; apply Exists.intro; refine ⟨fun W hW => ?_, ?_⟩; (have hE := hW; clear hW; go_simp; try with_reducible rfl); simp only [Act.put, List.setIfInBounds_toArray, List.set_cons_zero, List.set_cons_succ]))
    refine Lex.lexR_nil (fun W hW hF => ?_)
    obtain ⟨hwr3, hbb3⟩ := (hF 23 rfl).2 rfl
    have HX4 : Hid (Ext w W) := Lib.hid (HW.out.ext.chg ((Chg.drew (Chg.refl _ _)).trans hW) fun i hi => by have := (HB0.out i hi).1; have := HW.out.ge; omega)
    have HW4 : Hid (OpW w W o bo g (comB o)) := Lib.hid ⟨HX4.out, HCB.out W hW, writer_mono hwr3 fun i _ hi => (hbb3 i hi).1, HW.out.lt, HW.out.ge, Nat.le_trans HW.out.gs hW.size⟩
    have x6 : W.cell? ⟨bo, 6, none⟩ = some (.slice o.A o.n o.cap) := blk_cell (i := 6) HW4.out.box (Ext.refl _) rfl
    clear hW hF hwr3 hbb3 z1 z2 z3 z5 z6 HFW HB0 HP0 HCB HW HX4
    refine Lex.onlyN_intro ?_
    have HRK := Lib.hid (HO.out.rows)
    have hXl : (comB o).length ≤ 78 := by simp [comB, textB, Le.le_length, bytesI_len]; omega
    go_wp2_with fail
    clear x6
    generalize hOA : o.A = OA at HRK ⊢
    go_loopg [53] o.n (fun q i wr => ∃ (k : Nat) (xs : List Int), k ≤ o.n ∧ q = o.n - k ∧ i = .int .i64 (k : Nat) ∧ xs.length ≤ 78 + k * 121 ∧ Hid (xs = comB o ++ (o.rows.take k).flatMap rowK) ∧ Hid (OpW w wr o bo g xs))
    case atStart => exact ⟨0, comB o, Nat.zero_le _, rfl, rfl, by omega, Lib.hid (by simp), HW4⟩
    case round =>
      clear HW4
      obtain ⟨k, xs, hk, rfl, rfl, hxl, HXS, HW⟩ := hrel
      by_cases hlt : k < o.n
      · obtain ⟨adp, r, rfl, hr0, hrow, hrok⟩ := row_at HRK.out hlt
        have hrc := HW.out.ext.cell_ hrow
        have hrm := List.mem_of_getElem? hr0
        obtain ⟨q1, q2, q3⟩ := HRW.out r hrm
        have HPE := Lib.hid q3
        have HROK := Lib.hid hrok
        have HR0 := Lib.hid hr0
        have hrcap : rN r ≤ rC r := (sl_len hrok).2.1
        have hki : ((k : Nat) : Int) < ((o.n : Nat) : Int) := by omega
        have W4 : IntKind.u64.wrap ((rN r : Nat) : Int) = ((rN r : Nat) : Int) := u64_id (by omega) (by omega)
        have HQ1 := Lib.hid q1
        clear hrow hrok hr0 hrm q3 q1
        go_wp2_with fail
        refine (Pack.num_calls (fun i => g ≤ i) g xs (rN r : Nat) 1 wr (fun i hi => Nat.le_trans HW.out.gs hi) HW.out.wr (by decide) (by decide) (by omega) (by omega) (by omega)).mono ?_
        rintro e w5 ⟨rfl, hw5, hc5⟩
        have HW5 : Hid (OpW w w5 o bo g (xs ++ Le.le 1 (rN r))) := Lib.hid ⟨HW.out.ext.chg hc5 fun i hi => by have hi : g ≤ i := hi; have := HW.out.ge; omega, hc5.at_ HW.out.box fun k => by have k : g ≤ bo := k; have := HW.out.lt; omega, hw5, HW.out.lt, HW.out.ge, Nat.le_trans HW.out.gs hc5.size⟩
        clear hw5 hc5 HW hrc
        go_wp2_with fail
        generalize hRA : rA r = RA at HROK ⊢
        go_loopg [64] (rN r) (fun q i wi => ∃ (m : Nat) (zs : List Int), m ≤ rN r ∧ q = rN r - m ∧ i = .int .i64 (m : Nat) ∧ zs.length ≤ 78 + k * 121 + 1 + m * 5 ∧ Hid (zs = xs ++ Le.le 1 (rN r) ++ ((rP r).take m).flatMap placeB) ∧ Hid (OpW w wi o bo g zs))
        case atStart => exact ⟨0, xs ++ Le.le 1 (rN r), Nat.zero_le _, rfl, rfl, by rw [List.length_append, Le.le_length]; omega, Lib.hid (by simp), HW5⟩
        case round =>
          clear HW5
          obtain ⟨m, zs, hm, rfl, rfl, hzl, HZS, HW⟩ := hrel
          by_cases hlt4 : m < rN r
          · obtain ⟨ap, p, rfl, hp, hp0, hp1, _, _⟩ := place_at HROK.out hlt4
            have HPP := Lib.hid (HPE.out p (List.mem_of_getElem? hp))
            have d0 := HW.out.ext.cell_ hp0
            have d1 := HW.out.ext.cell_ hp1
            have HP := Lib.hid hp
            have hmi : ((m : Nat) : Int) < ((rN r : Nat) : Int) := by omega
            have hgs : g ≤ wr.heap.size := HW.out.gs
            clear hp hp0 hp1
            go_upto_region 16 with (refine RowSt.wpList_put 80 _ _ rfl rfl rfl wr.heap.size #[.int .i64 (node p), .int .u32 (gen p)] rfl rfl 80 _ (at_new wr _) (by kernel_rfl) rfl (by simp [Value.oneCell']) ?_; intro w9 hb9 hc9)
            have hE9 : Ext wr w9 := (Ext.new wr _).chg hc9 fun i hi => by have hi : i = wr.heap.size := hi; omega
            have hbx : wr.heap.size < w9.heap.size := Pack.lt_of_at hb9
            have HX9 := Lib.hid (HW.out.ext.trans hE9)
            have HOB9 := Lib.hid (hE9.at_ HW.out.box)
            obtain ⟨f0, hf0⟩ : ∃ f0 : Nat → Prop, f0 = fun i => (g ≤ i ∧ i ≠ wr.heap.size) ∧ i < w9.heap.size := ⟨_, rfl⟩
            have hfw : Pack.Writer w9 f0 g zs := by
              have h1 : Pack.Writer wr f0 g zs := by rw [hf0]; exact writer_mono HW.out.wr fun i hi k => ⟨⟨k, by omega⟩, by omega⟩
              exact h1.chg (S' := fun _ => False) (Below.chg hE9) (fun _ _ k => k)
            have hcellB : ∀ W, Chg f0 w9.drew W → W.heap[wr.heap.size]? = some (.cells #[.int .i64 (node p), .int .u32 (gen p)] 80 (0, 0)) := fun W hW => hW.at_ (i := wr.heap.size) (show w9.drew.heap[wr.heap.size]? = _ from hb9) (by rw [hf0]; exact fun k => k.1.2 rfl)
            have HCO : Hid (∀ W, Chg f0 w9.drew W → W.heap[bo]? = some (.cells (opC o) 82 (0, 0))) := Lib.hid fun W hW => hW.at_ (i := bo) (show w9.drew.heap[bo]? = _ from HOB9.out) (by rw [hf0]; exact fun k => by have := HW.out.lt; omega)
            have z0 : ∀ W, Chg f0 w9.drew W → W.cell? ⟨wr.heap.size, 0, none⟩ = some (.int .i64 (node p)) := fun W hW => blk_cell (i := 0) (hcellB W hW) (Ext.refl _) rfl
            have z1 : ∀ W, Chg f0 w9.drew W → W.cell? ⟨wr.heap.size, 1, none⟩ = some (.int .u32 (gen p)) := fun W hW => blk_cell (i := 1) (hcellB W hW) (Ext.refl _) rfl
            have W5 : IntKind.u64.wrap (node p) = node p := IntWalk.u64_in _ (by have := HPP.out; omega)
            have W6 : IntKind.u64.wrap (gen p) = gen p := IntWalk.u64_in _ (by have := HPP.out; omega)
            have HFW := Lib.hid hfw
            have HB0 : Hid (∀ i, f0 i → (fun i => g ≤ i ∧ i ≠ wr.heap.size) i ∧ i < w9.drew.heap.size) := Lib.hid (by rw [hf0]; exact fun i hi => hi)
            have HP0 : Hid (∀ W, Chg f0 w9.drew W → ∀ i, W.heap.size ≤ i → g ≤ i ∧ i ≠ wr.heap.size) := Lib.hid fun W hW i hi => by have h1 : w9.heap.size ≤ W.heap.size := hW.size; exact ⟨by omega, by omega⟩
            clear hfw hb9 hc9 hf0 d0 d1 hcellB hE9
            refine Lex.wp_region_rw [0, 1, 2, 3, 4, 5, 6, 7, 8] [] f0 9 (wrR (fun i => g ≤ i ∧ i ≠ wr.heap.size) g zs) (.pointer (some ⟨g, 0, none⟩)) [(4, 9), (8, 4)] [(4, wrR (fun i => g ≤ i ∧ i ≠ wr.heap.size) g (zs ++ Le.le 1 (node p))), (8, wrR (fun i => g ≤ i ∧ i ≠ wr.heap.size) g (zs ++ placeB p))] (by kernel_rfl) (by kernel_rfl) (by kernel_rfl) (by repeat (first | exact Lex.ok_nilR | refine Lex.ok_consR (by first | exact Lex.rowR_ok | exact Tbl.wrR_ok | exact Tbl.rdR_ok | assumption) ?_)) (by first | exact Tbl.wrR_ok | exact Lex.rowR_ok) ⟨Pack.Writer.chg HFW.out (S' := fun _ => False) (Chg.drew (Chg.refl _ _)) (fun _ _ k => k), HB0.out⟩ (fun i hi => (HB0.out i hi).2) ?_; simp only [Lex.pick, List.getElem?_cons_succ, List.getElem?_cons_zero, List.map_cons, List.map_nil]
            repeat (first | (refine Lex.lexR_skip (by rfl) ?_; simp only [Act.put, List.setIfInBounds_toArray, List.set_cons_zero, List.set_cons_succ]) | (refine Lex.lexR_still (by rfl) (by rfl) ?_; apply Exists.intro; refine ⟨fun W hW => ?_, ?_⟩; (have hE := hW; clear hW; go_simp; try with_reducible rfl); simp only [Act.put, List.setIfInBounds_toArray, List.set_cons_zero, List.set_cons_succ]))
            refine Lex.lexR_loose (by rfl) (by rfl) (fun W hW hAP => ?_) ?_
            · obtain ⟨hwr, hbb⟩ := (hW.2 9 (by kernel_rfl) rfl).2 rfl
              have hP := HP0.out W hW.1
              clear hW hAP
              go_simp
              exact wr_call hbb (fun i hi => ⟨9, by simp, .inr ⟨rfl, hi⟩⟩) hP (num_w hwr (by decide) (by decide) HPP.out.1 (by have := HPP.out; omega) (by omega) rfl)
            rintro v f1 rfl
            simp only [Act.put, List.setIfInBounds_toArray, List.set_cons_zero, List.set_cons_succ]
            repeat (first | (refine Lex.lexR_skip (by rfl) ?_; simp only [Act.put, List.setIfInBounds_toArray, List.set_cons_zero, List.set_cons_succ]) | (refine Lex.lexR_still (by rfl) (by rfl) ?_; apply Exists.intro; refine ⟨fun W hW => ?_, ?_⟩; (have hE := hW; clear hW; go_simp; try with_reducible rfl); simp only [Act.put, List.setIfInBounds_toArray, List.set_cons_zero, List.set_cons_succ]))
            refine Lex.lexR_loose (by rfl) (by rfl) (fun W hW hAP => ?_) ?_
            · obtain ⟨hwr, hbb⟩ := (hW.2 4 (by kernel_rfl) rfl).2 rfl
              have hP := HP0.out W hW.1
              clear hW hAP
              go_simp
              exact wr_call hbb (fun i hi => ⟨4, by simp, .inr ⟨rfl, hi⟩⟩) hP (num_w hwr (by decide) (by decide) HPP.out.2.2.1 (by have := HPP.out; omega) (by simp [Le.le_length]; omega) (by simp [placeB]))
            rintro v f2 rfl
            simp only [Act.put, List.setIfInBounds_toArray, List.set_cons_zero, List.set_cons_succ]
            repeat (first | (refine Lex.lexR_skip (by rfl) ?_; simp only [Act.put, List.setIfInBounds_toArray, List.set_cons_zero, List.set_cons_succ]) | (refine Lex.lexR_still (by rfl) (by rfl) ?_; apply Exists.intro; refine ⟨fun W hW => ?_, ?_⟩; (have hE := hW; clear hW; go_simp; try with_reducible rfl); simp only [Act.put, List.setIfInBounds_toArray, List.set_cons_zero, List.set_cons_succ]))
            refine Lex.lexR_nil (fun W hW hF => ?_)
            obtain ⟨hwr3, hbb3⟩ := (hF 8 rfl).2 rfl
            have HW4 : Hid (OpW w W o bo g (zs ++ placeB p)) := Lib.hid ⟨HX9.out.chg ((Chg.drew (Chg.refl _ _)).trans hW) fun i hi => by have := (HB0.out i hi).1.1; have := HW.out.ge; omega, HCO.out W hW, writer_mono hwr3 fun i _ hi => (hbb3 i hi).1.1, HW.out.lt, HW.out.ge, by have h1 : w9.heap.size ≤ W.heap.size := hW.size; omega⟩
            clear hW hF hwr3 hbb3 z0 z1 HFW HB0 HP0 HCO HW HX9 HOB9
            refine Lex.onlyN_intro ?_
            go_wp2_with fail
            go_roundg (rN r - (m + 1))
            case measure => omega
            case rel => exact ⟨m + 1, zs ++ placeB p, by omega, rfl, by first | rfl | go_num, by simp [placeB, Le.le_length]; omega, Lib.hid (by rw [HZS.out, List.take_add_one, HP.out]; simp), HW4⟩
          · obtain rfl : m = rN r := by omega
            have HZ2 : Hid (zs = comB o ++ (o.rows.take (k + 1)).flatMap rowK) := Lib.hid (by
              rw [HZS.out, HXS.out, List.take_of_length_le (l := rP r) (Nat.le_of_eq HQ1.out), List.take_add_one, HR0.out]
              simp [rowK, rowB])
            go_wp2_with fail
            go_roundg (o.n - (k + 1))
            case measure => omega
            case rel => exact ⟨k + 1, zs, by omega, rfl, by first | rfl | go_num, by omega, HZ2, HW⟩
      · obtain rfl : k = o.n := by omega
        have HZ2 : Hid (xs = opB o) := Lib.hid (by
          rw [HXS.out, List.take_of_length_le (by rw [HRL.out]; exact Nat.le_refl _)]
          unfold opB
          rw [if_neg (by have := HKK.out; omega), if_pos HKK.out])
        rw [HZ2.out] at HW
        go_wp2_with fail
        refine (Pack.bytes_calls (fun i => g ≤ i) g (opB o) wr HW.out.wr (by have := opB_len HF.out; omega)).mono ?_
        rintro e w9 ⟨A9, c9, rfl, ho9, hb9⟩
        have HO9 := Lib.hid ho9
        have HB9 := Lib.hid hb9
        clear ho9 hb9
        go_wp2_with fail
        exact HQ.out _ _ (HW.out.ext.trans HB9.out) ⟨A9, c9, rfl, HO9.out.mono fun i _ hi => Nat.le_trans HW.out.ext.size hi⟩
  by_cases h3 : o.kind = 3
  · have hk1 : (o.kind == 1) = false := by simp [h1]
    have hk2 : (o.kind == 2) = false := by simp [h2]
    have hk : (o.kind == 3) = true := by simp [h3]
    have HKK := Lib.hid h3
    have hfn := HF.out.name (.inr h3)
    clear h1 h2 h3
    obtain ⟨cc, W', hrun, he, hrd, hlt⟩ := conv_str w3 o.name (by omega)
    have HE := Lib.hid he
    have HRD := Lib.hid hrd
    have HLT := Lib.hid hlt
    clear he hrd hlt
    go_wp2_with fail
    refine (wtext_calls (fun i => g ≤ i ∧ i ≠ w3.heap.size) g (Le.le 1 o.kind) _ o.name.size cc (bytesI o.name) W' (fun i hi => ⟨by have := HE.out.size; have := HW.out.gs; omega, by have := HLT.out; omega⟩) (writer_mono ((writer_mono HW.out.wr fun i hi k => (⟨k, by omega⟩ : g ≤ i ∧ i ≠ w3.heap.size)).below HE.out) fun _ _ k => k) HRD.out (fun ad ha _ hS => by cases ha; exact hS.2 rfl) (by simp [Le.le_length]) (by omega)).mono ?_
    rintro e w4 ⟨rfl, hw4, hc4⟩
    have HW4 : Hid (Pack.Writer w4 (fun i => g ≤ i) g (opB o)) := Lib.hid (by
      unfold opB
      rw [if_neg (by have := HKK.out; omega), if_neg (by have := HKK.out; omega), if_pos HKK.out]
      have := writer_mono hw4 (f' := fun i => g ≤ i) fun i _ k => k.1
      rw [HKK.out] at this
      exact this)
    have HX4 := Lib.hid ((HW.out.ext.trans HE.out).chg hc4 fun i hi => Nat.le_trans HBG.out hi.1)
    clear hw4 hc4 c0 c1 c2 HW
    go_wp2_with fail
    refine (Pack.bytes_calls (fun i => g ≤ i) g (opB o) w4 HW4.out (by have := opB_len HF.out; omega)).mono ?_
    rintro e w9 ⟨A9, c9, rfl, ho9, hb9⟩
    have HO9 := Lib.hid ho9
    have HB9 := Lib.hid hb9
    clear ho9 hb9
    go_wp2_with fail
    exact HQ.out _ _ (HX4.out.trans HB9.out) ⟨A9, c9, rfl, HO9.out.mono fun i _ hi => Nat.le_trans HX4.out.size hi⟩
  · have h4 : o.kind = 4 := by have := HK0.out; omega
    have hk1 : (o.kind == 1) = false := by simp [h1]
    have hk2 : (o.kind == 2) = false := by simp [h2]
    have hk3 : (o.kind == 3) = false := by simp [h3]
    have hk : (o.kind == 4) = true := by simp [h4]
    have HKK := Lib.hid h4
    obtain ⟨s0, s1, t0, t1, n0, n1, g0, g1⟩ := HF.out.c4 h4
    clear h1 h2 h3 h4
    obtain ⟨X0, hX0⟩ : ∃ X0, X0 = Le.le 1 o.kind := ⟨_, rfl⟩
    rw [← hX0] at HW
    have hXl0 : X0.length = 1 := by rw [hX0, Le.le_length]
    have HX0 : Hid (X0 = Le.le 1 4) := Lib.hid (by rw [hX0, HKK.out])
    clear hX0
    go_upto_region 22 with fail
    obtain ⟨f0, hf0⟩ : ∃ f0 : Nat → Prop, f0 = fun i => g ≤ i ∧ i < w3.heap.size := ⟨_, rfl⟩
    have hfw : Pack.Writer w3 f0 g X0 := by rw [hf0]; exact writer_mono HW.out.wr fun i hi k => ⟨k, hi⟩
    have hcellA : ∀ W, Chg f0 w3.drew W → W.heap[bo]? = some (.cells (opC o) 82 (0, 0)) := fun W hW => hW.at_ (i := bo) (show w3.drew.heap[bo]? = _ from HW.out.box) (by rw [hf0]; exact fun k => by omega)
    have z1 : ∀ W, Chg f0 w3.drew W → W.cell? ⟨bo, 1, none⟩ = some (.int .u32 o.num) := fun W hW => blk_cell (i := 1) (hcellA W hW) (Ext.refl _) rfl
    have z7 : ∀ W, Chg f0 w3.drew W → W.cell? ⟨bo, 7, none⟩ = some (.int .i64 o.stripe) := fun W hW => blk_cell (i := 7) (hcellA W hW) (Ext.refl _) rfl
    have z8 : ∀ W, Chg f0 w3.drew W → W.cell? ⟨bo, 8, none⟩ = some (.int .i64 o.slot) := fun W hW => blk_cell (i := 8) (hcellA W hW) (Ext.refl _) rfl
    have z9 : ∀ W, Chg f0 w3.drew W → W.cell? ⟨bo, 9, none⟩ = some (.int .i64 o.node) := fun W hW => blk_cell (i := 9) (hcellA W hW) (Ext.refl _) rfl
    have z10 : ∀ W, Chg f0 w3.drew W → W.cell? ⟨bo, 10, none⟩ = some (.int .u32 o.gen) := fun W hW => blk_cell (i := 10) (hcellA W hW) (Ext.refl _) rfl
    have W1 : IntKind.u64.wrap o.stripe = o.stripe := u64_id (by omega) (by omega)
    have W2 : IntKind.u64.wrap o.slot = o.slot := u64_id (by omega) (by omega)
    have W3 : IntKind.u64.wrap o.node = o.node := u64_id (by omega) (by omega)
    have W4 : IntKind.u64.wrap o.gen = o.gen := u64_id (by omega) (by omega)
    have HFW := Lib.hid hfw
    have HB0 : Hid (∀ i, f0 i → (fun i => g ≤ i) i ∧ i < w3.drew.heap.size) := Lib.hid (by rw [hf0]; exact fun i hi => hi)
    have HP0 : Hid (∀ W, Chg f0 w3.drew W → ∀ i, W.heap.size ≤ i → g ≤ i) := Lib.hid fun W hW i hi => Nat.le_trans HW.out.gs (Nat.le_trans hW.size hi)
    clear hfw hf0 c0 c1 c2 hcellA
    refine Lex.wp_region_rw [0, 1, 2, 3, 4, 5, 6, 7, 8, 9, 10, 11, 12, 13, 14, 15, 16, 17, 18, 19, 20, 21, 22] [] f0 23 (wrR (fun i => g ≤ i) g X0) (.pointer (some ⟨g, 0, none⟩)) [(4, 23), (8, 4), (12, 8), (17, 12), (22, 17)] [(4, wrR (fun i => g ≤ i) g (X0 ++ Le.le 4 o.num)), (8, wrR (fun i => g ≤ i) g (X0 ++ Le.le 4 o.num ++ Le.le 1 o.stripe)), (12, wrR (fun i => g ≤ i) g (X0 ++ Le.le 4 o.num ++ Le.le 1 o.stripe ++ Le.le 1 o.slot)), (17, wrR (fun i => g ≤ i) g (X0 ++ Le.le 4 o.num ++ Le.le 1 o.stripe ++ Le.le 1 o.slot ++ Le.le 1 o.node)), (22, wrR (fun i => g ≤ i) g (X0 ++ Le.le 4 o.num ++ Le.le 1 o.stripe ++ Le.le 1 o.slot ++ Le.le 1 o.node ++ Le.le 4 o.gen))] (by kernel_rfl) (by kernel_rfl) (by kernel_rfl) (by repeat (first | exact Lex.ok_nilR | refine Lex.ok_consR (by first | exact Lex.rowR_ok | exact Tbl.wrR_ok | exact Tbl.rdR_ok | assumption) ?_)) (by first | exact Tbl.wrR_ok | exact Lex.rowR_ok) ⟨Pack.Writer.chg HFW.out (S' := fun _ => False) (Chg.drew (Chg.refl _ _)) (fun _ _ k => k), HB0.out⟩ (fun i hi => (HB0.out i hi).2) ?_; simp only [Lex.pick, List.getElem?_cons_succ, List.getElem?_cons_zero, List.map_cons, List.map_nil]
    repeat (first | (refine Lex.lexR_skip (by rfl) ?_; simp only [Act.put, List.setIfInBounds_toArray, List.set_cons_zero, List.set_cons_succ]) | (refine Lex.lexR_still (by rfl) (by rfl) ?_; apply Exists.intro; refine ⟨fun W hW => ?_, ?_⟩; (have hE := hW; clear hW; go_simp; try with_reducible rfl); simp only [Act.put, List.setIfInBounds_toArray, List.set_cons_zero, List.set_cons_succ]))
    refine Lex.lexR_loose (by rfl) (by rfl) (fun W hW hAP => ?_) ?_
    · obtain ⟨hwr, hbb⟩ := (hW.2 23 (by kernel_rfl) rfl).2 rfl
      have hP := HP0.out W hW.1
      clear hW hAP
      go_simp
      exact wr_call hbb (fun i hi => ⟨23, by simp, .inr ⟨rfl, hi⟩⟩) hP (num_w hwr (by decide) (by decide) HF.out.num.1 (by have := HF.out.num.2; omega) (by omega) rfl)
    rintro v f1 rfl
    simp only [Act.put, List.setIfInBounds_toArray, List.set_cons_zero, List.set_cons_succ]
    repeat (first | (refine Lex.lexR_skip (by rfl) ?_; simp only [Act.put, List.setIfInBounds_toArray, List.set_cons_zero, List.set_cons_succ]) | (refine Lex.lexR_still (by rfl) (by rfl) ?_; apply Exists.intro; refine ⟨fun W hW => ?_, ?_⟩; (have hE := hW; clear hW; go_simp; try with_reducible rfl); simp only [Act.put, List.setIfInBounds_toArray, List.set_cons_zero, List.set_cons_succ]))
    refine Lex.lexR_loose (by rfl) (by rfl) (fun W hW hAP => ?_) ?_
    · obtain ⟨hwr, hbb⟩ := (hW.2 4 (by kernel_rfl) rfl).2 rfl
      have hP := HP0.out W hW.1
      clear hW hAP
      go_simp
      exact wr_call hbb (fun i hi => ⟨4, by simp, .inr ⟨rfl, hi⟩⟩) hP (num_w hwr (by decide) (by decide) (by omega) (by omega) (by simp [Le.le_length]; omega) (by simp only [List.append_assoc]; rfl))
    rintro v f2 rfl
    simp only [Act.put, List.setIfInBounds_toArray, List.set_cons_zero, List.set_cons_succ]
    repeat (first | (refine Lex.lexR_skip (by rfl) ?_; simp only [Act.put, List.setIfInBounds_toArray, List.set_cons_zero, List.set_cons_succ]) | (refine Lex.lexR_still (by rfl) (by rfl) ?_; apply Exists.intro; refine ⟨fun W hW => ?_, ?_⟩; (have hE := hW; clear hW; go_simp; try with_reducible rfl); simp only [Act.put, List.setIfInBounds_toArray, List.set_cons_zero, List.set_cons_succ]))
    refine Lex.lexR_loose (by rfl) (by rfl) (fun W hW hAP => ?_) ?_
    · obtain ⟨hwr, hbb⟩ := (hW.2 8 (by kernel_rfl) rfl).2 rfl
      have hP := HP0.out W hW.1
      clear hW hAP
      go_simp
      exact wr_call hbb (fun i hi => ⟨8, by simp, .inr ⟨rfl, hi⟩⟩) hP (num_w hwr (by decide) (by decide) (by omega) (by omega) (by simp [Le.le_length]; omega) (by simp only [List.append_assoc]; rfl))
    rintro v f3 rfl
    simp only [Act.put, List.setIfInBounds_toArray, List.set_cons_zero, List.set_cons_succ]
    repeat (first | (refine Lex.lexR_skip (by rfl) ?_; simp only [Act.put, List.setIfInBounds_toArray, List.set_cons_zero, List.set_cons_succ]) | (refine Lex.lexR_still (by rfl) (by rfl) ?_; apply Exists.intro; refine ⟨fun W hW => ?_, ?_⟩; (have hE := hW; clear hW; go_simp; try with_reducible rfl); simp only [Act.put, List.setIfInBounds_toArray, List.set_cons_zero, List.set_cons_succ]))
    refine Lex.lexR_loose (by rfl) (by rfl) (fun W hW hAP => ?_) ?_
    · obtain ⟨hwr, hbb⟩ := (hW.2 12 (by kernel_rfl) rfl).2 rfl
      have hP := HP0.out W hW.1
      clear hW hAP
      go_simp
      exact wr_call hbb (fun i hi => ⟨12, by simp, .inr ⟨rfl, hi⟩⟩) hP (num_w hwr (by decide) (by decide) (by omega) (by omega) (by simp [Le.le_length]; omega) (by simp only [List.append_assoc]; rfl))
    rintro v f4 rfl
    simp only [Act.put, List.setIfInBounds_toArray, List.set_cons_zero, List.set_cons_succ]
    repeat (first | (refine Lex.lexR_skip (by rfl) ?_; simp only [Act.put, List.setIfInBounds_toArray, List.set_cons_zero, List.set_cons_succ]) | (refine Lex.lexR_still (by rfl) (by rfl) ?_; apply Exists.intro; refine ⟨fun W hW => ?_, ?_⟩; (have hE := hW; clear hW; go_simp; try with_reducible rfl); simp only [Act.put, List.setIfInBounds_toArray, List.set_cons_zero, List.set_cons_succ]))
    refine Lex.lexR_loose (by rfl) (by rfl) (fun W hW hAP => ?_) ?_
    · obtain ⟨hwr, hbb⟩ := (hW.2 17 (by kernel_rfl) rfl).2 rfl
      have hP := HP0.out W hW.1
      clear hW hAP
      go_simp
      exact wr_call hbb (fun i hi => ⟨17, by simp, .inr ⟨rfl, hi⟩⟩) hP (num_w hwr (by decide) (by decide) (by omega) (by omega) (by simp [Le.le_length]; omega) (by simp only [List.append_assoc]; rfl))
    rintro v f5 rfl
    simp only [Act.put, List.setIfInBounds_toArray, List.set_cons_zero, List.set_cons_succ]
    repeat (first | (refine Lex.lexR_skip (by rfl) ?_; simp only [Act.put, List.setIfInBounds_toArray, List.set_cons_zero, List.set_cons_succ]) | (refine Lex.lexR_still (by rfl) (by rfl) ?_; apply Exists.intro; refine ⟨fun W hW => ?_, ?_⟩; (have hE := hW; clear hW; go_simp; try with_reducible rfl); simp only [Act.put, List.setIfInBounds_toArray, List.set_cons_zero, List.set_cons_succ]))
    refine Lex.lexR_nil (fun W hW hF => ?_)
    obtain ⟨hwr3, hbb3⟩ := (hF 22 rfl).2 rfl
    have HX4 : Hid (Ext w W) := Lib.hid (HW.out.ext.chg ((Chg.drew (Chg.refl _ _)).trans hW) fun i hi => by have := (HB0.out i hi).1; have := HW.out.ge; omega)
    have HW4 : Hid (Pack.Writer W (fun i => g ≤ i) g (opB o)) := Lib.hid (by
      unfold opB
      rw [if_neg (by have := HKK.out; omega), if_neg (by have := HKK.out; omega), if_neg (by have := HKK.out; omega), ← HX0.out]
      exact writer_mono hwr3 fun i _ hi => (hbb3 i hi).1)
    clear hW hF hwr3 hbb3 z1 z7 z8 z9 z10 HFW HB0 HP0 HW
    refine Lex.onlyN_intro ?_
    go_wp2_with fail
    refine (Pack.bytes_calls (fun i => g ≤ i) g (opB o) W HW4.out (by have := opB_len HF.out; omega)).mono ?_
    rintro e w9 ⟨A9, c9, rfl, ho9, hb9⟩
    have HO9 := Lib.hid ho9
    have HB9 := Lib.hid hb9
    clear ho9 hb9
    go_wp2_with fail
    exact HQ.out _ _ (HX4.out.trans HB9.out) ⟨A9, c9, rfl, HO9.out.mono fun i _ hi => Nat.le_trans HX4.out.size hi⟩
end Go.Proofs.Ytipmkddcdnbihaa.Bk
/- An operation, read out of its bytes: Parse; walked. -/
namespace Go.Proofs.Ytipmkddcdnbihaa.Bk
open Go.RowKit Base Step Vec Shape Erase Tbl PackB
theorem str_bytes (s : ByteArray) : strOfNums (bytesI s) = s := by
  unfold strOfNums bytesI
  rw [List.map_map]
  have h : (s.data.toList.map ((fun n : Int => UInt8.ofNat n.toNat) ∘ fun b : UInt8 => (b.toNat : Int))) = s.data.toList := by
    conv => rhs; rw [← List.map_id s.data.toList]
    refine List.map_congr_left fun b _ => ?_
    simp
  rw [h]
/-- Rows of which others are like, from block B on. -/
structure RowsN (w W : World) (l l' : List Tbl.Row) (n : Nat) (A : Option Addr) (c : Nat) : Prop where
  len : l'.length = n
  prow : New w W 186 1 A n c (cellsL rowS l')
  alike : ∀ (i : Nat) (r r' : Tbl.Row), l[i]? = some r → l'[i]? = some r' → Tbl.Alike r r' ∧ Tbl.RowNew w W r'
theorem Got.rowsN {w W : World} {g : Nat} {l l' : List Tbl.Row} {n c : Nat} {A : Option Addr} (h : Got w W g l l' n A c) : RowsN w W l l' n A c := ⟨h.len, h.prow, h.alike⟩
theorem RowsN.chg {w W W2 : World} {S : Nat → Prop} {l l' : List Tbl.Row} {n c : Nat} {A : Option Addr} (h : RowsN w W l l' n A c) (hc : Chg S W W2) (hS : ∀ i, S i → i < w.heap.size) : RowsN w W2 l l' n A c :=
  ⟨h.len, h.prow.chg hc fun i hi k => by have hi : w.heap.size ≤ i := hi; have := hS i k; omega, fun i r r' h1 h2 => ⟨(h.alike i r r' h1 h2).1, (h.alike i r r' h1 h2).2.chg hc fun i hi k => by have hi : w.heap.size ≤ i := hi; have := hS i k; omega⟩⟩
theorem RowsN.same {w W : World} {l l' : List Tbl.Row} {c : Nat} {A : Option Addr} (h : RowsN w W l l' l.length A c) : Same l l' := by
  unfold Same
  apply List.ext_getElem?
  intro i
  rw [List.getElem?_map, List.getElem?_map]
  have h1 := h.len
  rcases Nat.lt_or_ge i l.length with hi | hi
  · obtain ⟨r, hr⟩ : ∃ r, l[i]? = some r := ⟨_, List.getElem?_eq_getElem hi⟩
    obtain ⟨r', hr'⟩ : ∃ r', l'[i]? = some r' := ⟨_, List.getElem?_eq_getElem (by omega)⟩
    obtain ⟨⟨_, h2⟩, _⟩ := h.alike i r r' hr hr'
    rw [hr, hr']
    simp [h2]
  · rw [List.getElem?_eq_none (by omega), List.getElem?_eq_none (by omega)]
theorem RowsN.ok {w W : World} {sl : Nat} {l l' : List Tbl.Row} {c : Nat} {A : Option Addr} (h : RowsN w W l l' l.length A c) (hf : ∀ r ∈ l, FitR sl r) : (Sh.sl rowS).ok W (A, l.length, c, l') ∧ ∀ r ∈ l', rN r ≤ sl := by
  have hat : ∀ r' ∈ l', ∃ r, r ∈ l ∧ Tbl.Alike r r' ∧ Tbl.RowNew w W r' := fun r' hr' => by
    obtain ⟨i, hi, hir⟩ := List.getElem_of_mem hr'
    obtain ⟨r, hr⟩ : ∃ r, l[i]? = some r := ⟨_, List.getElem?_eq_getElem (by rw [← h.len]; exact hi)⟩
    exact ⟨r, List.mem_of_getElem? hr, h.alike i r r' hr (by rw [List.getElem?_eq_getElem hi, hir])⟩
  refine ⟨ok_own (W := W) (e := rowS) h.prow (by decide) h.len (fun r' hr' => ?_) (fun a v _ hc => hc) (own_max h.prow), fun r' hr' => ?_⟩
  · obtain ⟨r, hr, ⟨ha1, ha2⟩, hn⟩ := hat r' hr'
    obtain ⟨q1, q2, q3⟩ := hf r hr
    refine ok_own (W := W) (e := plS) hn (by decide) (by show (rP r').length = rN r'; rw [ha2, ha1]; exact q1) (fun x hx => ?_) (fun a v _ hc => hc) (own_max hn)
    have hx : x ∈ rP r' := hx
    rw [ha2] at hx
    obtain ⟨k1, k2, k3, k4⟩ := q3 x hx
    have e1 : (Lit.int .i64 (node x)).wf = true := WalkArith.wf_i64 ⟨by omega, by omega⟩
    have e2 : (Lit.int .u32 (gen x)).wf = true := WalkArith.wf_u32 ⟨k3, by omega⟩
    have hxk : (Lit.int .i64 x.1).wf = true ∧ (Lit.int .u32 x.2.1).wf = true ∧ True := ⟨e1, e2, trivial⟩
    exact hxk
  · obtain ⟨r, hr, ⟨ha1, ha2⟩, hn⟩ := hat r' hr'
    rw [ha1]
    exact (hf r hr).2.1
abbrev opZ : Array Value := #[.int .i64 0, .int .u32 0, .string ⟨#[]⟩, .int .i64 0, .int .i64 0, .int .i64 0, .slice none 0 0, .int .i64 0, .int .i64 0, .int .i64 0, .int .u32 0]
/-- An empty operation. -/
def op0 : Tbl.Op := ⟨0, 0, ⟨#[]⟩, 0, 0, 0, none, 0, 0, [], 0, 0, 0, 0⟩
/-- What is known while an operation is read: the result's box b2, the reader's block g, the operation's box g5. -/
structure PS (w W : World) (b2 g g5 : Nat) (o : Tbl.Op) (xs : List Int) : Prop where
  ext : Ext w W
  box : W.heap[g5]? = some (.cells (opC o) 82 (0, 0))
  res : W.heap[b2]? = some (.cells opZ 82 (0, 0))
  rd : ReaderB W g (b2 + 1) xs false
  lt : b2 < g ∧ g < g5
  ge : w.heap.size ≤ b2
theorem PS.num {w W W' : World} {b2 g g5 : Nat} {o : Tbl.Op} {xs ys : List Int} (h : PS w W b2 g g5 o xs) (hr : ReaderB W' g (b2 + 1) ys false) (hc : Chg (fun i => i = g) W W') : PS w W' b2 g g5 o ys :=
  ⟨h.ext.chg hc fun i hi => by have hi : i = g := hi; have := h.lt; have := h.ge; omega, hc.at_ h.box (by have := h.lt; omega), hc.at_ h.res (by have := h.lt; omega), hr, h.lt, h.ge⟩
theorem PS.put {w W W' : World} {b2 g g5 : Nat} {o o' : Tbl.Op} {xs : List Int} (h : PS w W b2 g g5 o xs) (hb : W'.heap[g5]? = some (.cells (opC o') 82 (0, 0))) (hc : Chg (fun i => i = g5) W W') : PS w W' b2 g g5 o' xs :=
  ⟨h.ext.chg hc fun i hi => by have hi : i = g5 := hi; have := h.lt; have := h.ge; omega, hb, hc.at_ h.res (by have := h.lt; omega), h.rd.chg hc fun i hi => by have hi : i = g5 := hi; have := h.lt; omega, h.lt, h.ge⟩
set_option maxRecDepth 100000 in
theorem done_calls (g B : Nat) (w : World) (hr : ReaderB w g B [] false) : Calls Try.prog 159 #[.pointer (some ⟨g, 0, none⟩)] w fun e w' => e = .returned (.bool true) ∧ Ext w w' := by
  have HR := Lib.hid hr.reader
  clear hr
  go_enter Try.func159, Try.ntmps159
  go_wp2_with fail
  refine (Pack.torn_calls g [] false w HR.out).mono ?_
  rintro e w1 ⟨rfl, rfl⟩
  go_wp2_with fail
  refine (Pack.left_calls g [] false w HR.out).mono ?_
  rintro e w1 ⟨rfl, rfl⟩
  go_wp2_with fail
  go_ret
  exact ⟨rfl, Ext.refl _⟩
theorem PS.ext_ {w W W' : World} {b2 g g5 : Nat} {o : Tbl.Op} {xs : List Int} (h : PS w W b2 g g5 o xs) (he : Ext W W') : PS w W' b2 g g5 o xs := ⟨h.ext.trans he, he.at_ h.box, he.at_ h.res, h.rd.ext he, h.lt, h.ge⟩
theorem PS.set {w W : World} {b2 g g5 i : Nat} {o o' : Tbl.Op} {xs : List Int} {u : Value} (h : PS w W b2 g g5 o xs) (ho : (opC o).setIfInBounds i u = opC o') : PS w (W.setCell ⟨g5, i, none⟩ u) b2 g g5 o' xs :=
  h.put (by rw [← ho]; exact set_blk h.box u) ((Chg.refl (fun i => i = g5) W).setCell (p := ⟨g5, i, none⟩) rfl _)
theorem at_flat {W : World} {k num st so nd gn : Int} {name : ByteArray} (h1 : 0 ≤ num) (h2 : num < 4294967296) (h3 : name.size ≤ 140737488355328) (h4 : 0 ≤ gn) (h5 : gn < 4294967296) (h6 : 0 ≤ nd) (h7 : nd < 32) : OpAt W ⟨k, num, name, 0, 0, 0, none, 0, 0, [], st, so, nd, gn⟩ :=
  ⟨by show (Lit.int .u32 num).wf = true; exact WalkArith.wf_u32 ⟨h1, by omega⟩, h3, by show (Lit.int .i64 0).wf = true; decide, by show (Lit.int .i64 0).wf = true; decide, by show (Lit.int .i64 0).wf = true; decide, ⟨rfl, Nat.le_refl _, by simp [maxLen], fun _ => rfl, fun i x hx => (by cases hx)⟩, Nat.zero_le _, fun r hr => (by cases hr), by show (Lit.int .u32 gn).wf = true; exact WalkArith.wf_u32 ⟨h4, by omega⟩, by show (Lit.int .i64 nd).wf = true; exact WalkArith.wf_i64 ⟨by omega, by omega⟩⟩
theorem rd_new_set {w0 w1 : World} {A : Option Addr} {n c g5 i : Nat} {xs : List Int} {u : Value} (h : New w0 w1 5 1 A n c (nums .u8 xs)) (hw : ∀ x ∈ xs, (Lit.int .u8 x).wf = true) (hg : g5 < w0.heap.size) : Rd (w1.setCell ⟨g5, i, none⟩ u) .u8 A n xs :=
  Pack.rd_setCell (h.rd hw) u fun ad ha _ e => by
    subst ha
    have h1 : w0.heap.size ≤ ad.block := h.foot _ rfl
    have e : ad.block = g5 := e
    omega
/-- What follows an operation's kind. -/
def opR (o : Tbl.Op) : List Int :=
  if o.kind = 1 then Le.le 4 o.num
  else if o.kind = 2 then Le.le 4 o.num ++ (textB o.name ++ (Le.le 4 o.l ++ (Le.le 2 o.p ++ (Le.le 1 o.n ++ (o.rows.flatMap rowK ++ [])))))
  else if o.kind = 3 then textB o.name
  else Le.le 4 o.num ++ (Le.le 1 o.stripe ++ (Le.le 1 o.slot ++ (Le.le 1 o.node ++ Le.le 4 o.gen)))
theorem opB_split {sl : Nat} {o : Tbl.Op} (h : Fit sl o) : opB o = Le.le 1 o.kind ++ opR o := by
  unfold opB opR comB
  by_cases h1 : o.kind = 1
  · rw [if_pos h1, if_pos h1, h1]
  by_cases h2 : o.kind = 2
  · rw [if_neg h1, if_neg h1, if_pos h2, if_pos h2, h2]
    simp
  by_cases h3 : o.kind = 3
  · rw [if_neg h1, if_neg h1, if_neg h2, if_neg h2, if_pos h3, if_pos h3, h3]
  · have h4 : o.kind = 4 := by rcases h.kind with h | h | h | h <;> omega
    rw [if_neg h1, if_neg h1, if_neg h2, if_neg h2, if_neg h3, if_neg h3, h4]
    simp
set_option maxRecDepth 100000 in
set_option maxHeartbeats 8000000 in
theorem parse_calls (o : Tbl.Op) (sl : Nat) (A : Option Addr) (n c : Nat) (w : World) (hr : Rd w .u8 A n (opB o)) (hc : n ≤ c) (h0 : A = none → c = 0) (hf : Fit sl o) (hsl : sl ≤ 24) :
    Calls Try.prog 90 #[.slice A n c] w fun e w' => ∃ o', e = .returned (.tuple #[opV o', .int .i64 0]) ∧ Ext w w' ∧ Like2 (norm o) o' ∧ OpAt w' o' := by
  obtain ⟨Q, hQ⟩ : ∃ Q : Ending → World → Prop, Q = fun e w' => ∃ o', e = .returned (.tuple #[opV o', .int .i64 0]) ∧ Ext w w' ∧ Like2 (norm o) o' ∧ OpAt w' o' := ⟨_, rfl⟩
  have HQ : Hid (∀ o' w', Ext w w' → Like2 (norm o) o' → OpAt w' o' → Q (.returned (.tuple #[opV o', .int .i64 0])) w') := Lib.hid fun o' w' h1 h2 h3 => by rw [hQ]; exact ⟨o', rfl, h1, h2, h3⟩
  rw [← hQ]
  clear hQ
  have HF := Lib.hid hf
  have hk0 : 1 ≤ o.kind ∧ o.kind ≤ 4 := by rcases hf.kind with h | h | h | h <;> omega
  have K0 : IntKind.i64.wrap o.kind = o.kind := IntWalk.i64_in _ (by omega)
  have N0 : IntKind.u32.wrap o.num = o.num := IntWalk.u32_in _ (by have := hf.num; omega)
  have HK0 := Lib.hid hk0
  have HR := Lib.hid hr
  clear hf hk0 hr
  have hb2 := at_new w (.cells opZ 82)
  have he1 := Ext.new w (.cells opZ 82)
  have HS1 : Hid ((w.alloc (.cells opZ 82)).heap.size = w.heap.size + 1) := Lib.hid (by simp)
  go_enter Try.func90, Try.ntmps90
  go_upto_region 1 with fail
  generalize w.alloc (.cells opZ 82) = w1 at *
  go_wp2_with fail
  refine (readB_calls A n c (opB o) w1 (HR.out.ext he1) hc h0).mono ?_
  rintro e w2 ⟨rfl, hr2, he2⟩
  have HR2 := Lib.hid hr2
  have HE2 := Lib.hid (he1.trans he2)
  have HB2 := Lib.hid (he2.at_ hb2)
  clear hr2 he2 he1 hb2
  have HGB : Hid (w1.heap.size = w.heap.size + 1) := HS1
  clear HS1
  generalize w1.heap.size = g at *
  rw [HGB.out] at HR2
  have HSP := Lib.hid (opB_split HF.out)
  rw [HSP.out] at HR2
  have hol := opB_len HF.out
  rw [HSP.out, List.length_append] at hol
  go_wp2_with fail
  refine (numB_calls g (w.heap.size + 1) (opR o) false 1 o.kind w2 (by have := HR2.out; rw [← HGB.out] at this ⊢; exact this) (by decide) (by omega) (by have := HK0.out; omega) (by have := HK0.out; omega)).mono ?_
  rintro e w3 ⟨rfl, hr3, hc3⟩
  have HR3 := Lib.hid hr3
  have HC3 := Lib.hid hc3
  clear hr3 hc3 HR2
  go_upto_region 3 with (refine RowSt.wpList_put 82 _ _ rfl rfl rfl w3.heap.size #[.int .i64 o.kind, .int .u32 0, .string ⟨#[]⟩, .int .i64 0, .int .i64 0, .int .i64 0, .slice none 0 0, .int .i64 0, .int .i64 0, .int .i64 0, .int .u32 0] rfl rfl 82 _ (at_new w3 _) (by kernel_rfl) rfl (by simp [Value.oneCell']) ?_; intro w4 hb4 hc4)
  have hg3 : g < w3.heap.size := HR3.out.lt
  have hE4 : Ext w3 w4 := (Ext.new w3 _).chg hc4 fun i hi => by have hi : i = w3.heap.size := hi; omega
  have HP4 : Hid (PS w w4 w.heap.size g w3.heap.size ⟨o.kind, 0, ⟨#[]⟩, 0, 0, 0, none, 0, 0, [], 0, 0, 0, 0⟩ (opR o)) := Lib.hid ⟨(HE2.out.chg HC3.out fun i hi => by have hi : i = g := hi; have := HGB.out; omega).trans hE4, hb4, hE4.at_ (HC3.out.at_ HB2.out (by have := HGB.out; omega)), HR3.out.ext hE4, ⟨by have := HGB.out; omega, hg3⟩, Nat.le_refl _⟩
  have HG3 := Lib.hid hg3
  generalize w3.heap.size = g5 at *
  clear hb4 hc4 hg3 hE4 HR3 HC3 HE2 HB2
  have k0 : w4.cell? ⟨g5, 0, none⟩ = some (.int .i64 o.kind) := blk_cell (i := 0) HP4.out.box (Ext.refl _) rfl
  by_cases h1 : o.kind = 1
  · have hk : (o.kind == 1) = true := by simp [h1]
    have HKK := Lib.hid h1
    have HX : Hid (opR o = Le.le 4 o.num ++ []) := Lib.hid (by unfold opR; rw [if_pos h1, List.append_nil])
    clear h1
    go_wp2_with fail
    refine (numB_calls g (w.heap.size + 1) [] false 4 o.num w4 (by have := HP4.out.rd; rw [HX.out] at this; exact this) (by decide) (by simp) HF.out.num.1 (by have := HF.out.num.2; omega)).mono ?_
    rintro e w5 ⟨rfl, hr5, hc5⟩
    have HP5 := Lib.hid (HP4.out.num hr5 hc5)
    clear hr5 hc5 HP4 k0
    have k1 : w5.cell? ⟨g5, 1, none⟩ = some (.int .u32 0) := blk_cell (i := 1) HP5.out.box (Ext.refl _) rfl
    have f1 : w5.frozen? ⟨g5, 1, none⟩ = false := Pack.free_of HP5.out.box 1
    go_upto_region 17 with fail
    have hs := set_blk (i := 1) HP5.out.box (.int .u32 o.num)
    have hcs : Chg (fun i => i = g5) w5 (w5.setCell ⟨g5, 1, none⟩ (.int .u32 o.num)) := (Chg.refl (fun i => i = g5) w5).setCell (p := ⟨g5, 1, none⟩) rfl _
    generalize w5.setCell ⟨g5, 1, none⟩ (.int .u32 o.num) = w6 at *
    have HP : Hid (PS w w6 w.heap.size g g5 ⟨o.kind, o.num, ⟨#[]⟩, 0, 0, 0, none, 0, 0, [], 0, 0, 0, 0⟩ []) := Lib.hid (HP5.out.put (by simpa using hs) hcs)
    clear hs hcs HP5 k1 f1
    have HLK : Hid (Like2 (norm o) ⟨o.kind, o.num, ⟨#[]⟩, 0, 0, 0, none, 0, 0, [], 0, 0, 0, 0⟩) := Lib.hid (by
      have e := HKK.out
      have e2 : ¬ o.kind = 2 := by omega
      unfold norm
      rw [if_neg e2]
      exact ⟨rfl, rfl, rfl, fun _ => rfl, fun k => absurd k e2, fun k => absurd (HKK.out.symm.trans k) (by decide), fun k => absurd (HKK.out.symm.trans k) (by decide)⟩)
    go_wp2_with fail
    refine (done_calls g (w.heap.size + 1) _ HP.out.rd).mono ?_
    rintro e w8 ⟨rfl, he8⟩
    have HB8 := Lib.hid (he8.at_ HP.out.box)
    have HR8 := Lib.hid (he8.at_ HP.out.res)
    have HE8 := Lib.hid (HP.out.ext.trans he8)
    have HX8 := Lib.hid he8
    clear he8 HP
    go_wp2_with (first | (refine wpList_load_rowG rfl 82 _ rfl g5 rfl 82 #[.int .i64 o.kind, .int .u32 o.num, .string ⟨#[]⟩, .int .i64 0, .int .i64 0, .int .i64 0, .slice none 0 0, .int .i64 0, .int .i64 0, .int .i64 0, .int .u32 0] (0, 0) _ HB8.out Try.underlying82 rfl (by kernel_rfl) ?_) | (refine RowSt.wpList_put 82 _ _ rfl rfl rfl w.heap.size #[.int .i64 o.kind, .int .u32 o.num, .string ⟨#[]⟩, .int .i64 0, .int .i64 0, .int .i64 0, .slice none 0 0, .int .i64 0, .int .i64 0, .int .i64 0, .int .u32 0] rfl rfl 82 _ HR8.out (by kernel_rfl) rfl (by simp [Value.oneCell']) ?_; intro w9 hb9 hc9))
    refine bodyPost_ret (v := .tuple #[.agg #[.int .i64 o.kind, .int .u32 o.num, .string ⟨#[]⟩, .int .i64 0, .int .i64 0, .int .i64 0, .slice none 0 0, .int .i64 0, .int .i64 0, .int .i64 0, .int .u32 0], .int .i64 0]) (RowSt.results_cell_tmp (p := 2) (q := 3) rfl _ _ w.heap.size 82 _ (0, 0) _ rfl hb9 Try.underlying82 rfl (by kernel_rfl)) rfl ?_
    exact HQ.out ⟨o.kind, o.num, ⟨#[]⟩, 0, 0, 0, none, 0, 0, [], 0, 0, 0, 0⟩ w9 (HE8.out.chg hc9 fun i hi => by have hi : i = w.heap.size := hi; omega) HLK.out (at_flat HF.out.num.1 HF.out.num.2 (Nat.zero_le _) (Int.le_refl _) (by decide) (Int.le_refl _) (by decide))
  by_cases h2 : o.kind = 2
  · have hk1 : (o.kind == 1) = false := by simp [h1]
    have hk : (o.kind == 2) = true := by simp [h2]
    have HKK := Lib.hid h2
    have hfn := HF.out.name (.inl h2)
    obtain ⟨l0, l1, p0, p1, hcn, hn32, hrl⟩ := HF.out.c2 h2
    have HRW : Hid (∀ r ∈ o.rows, FitR sl r) := Lib.hid (HF.out.rows h2)
    have HRL := Lib.hid hrl
    have hz : (o.rows.flatMap rowK ++ []).length ≤ 10000 := by
      have h4 := flat_le_mul rowK (1 + 5 * sl) o.rows fun r hr => rowK_len (HF.out.rows h2 r hr).1 (HF.out.rows h2 r hr).2.1
      have h6 : o.rows.length * (1 + 5 * sl) ≤ 32 * (1 + 5 * sl) := Nat.mul_le_mul_right _ (by omega)
      have h7 := Nat.le_trans h4 h6
      rw [List.append_nil]
      omega
    obtain ⟨R5, hR5⟩ : ∃ R5, R5 = o.rows.flatMap rowK ++ [] := ⟨_, rfl⟩
    have HX : Hid (opR o = Le.le 4 o.num ++ (Le.le 2 (bytesI o.name).length ++ (bytesI o.name ++ (Le.le 4 o.l ++ (Le.le 2 o.p ++ (Le.le 1 (o.rows.length : Nat) ++ R5)))))) := Lib.hid (by unfold opR textB; rw [if_neg h1, if_pos h2, bytesI_len, hrl, hR5]; simp)
    rw [← hR5] at hz
    have HR5 := Lib.hid hR5
    have W1 : IntKind.i64.wrap o.l = o.l := IntWalk.i64_in _ (by omega)
    have W2 : IntKind.i64.wrap o.p = o.p := IntWalk.i64_in _ (by omega)
    clear h1 h2 hrl hR5
    have HRD4 : Hid (ReaderB w4.drew g (w.heap.size + 1) (Le.le 4 o.num ++ (Le.le 2 (bytesI o.name).length ++ (bytesI o.name ++ (Le.le 4 o.l ++ (Le.le 2 o.p ++ (Le.le 1 (o.rows.length : Nat) ++ R5)))))) false) := Lib.hid (by have := HP4.out.rd; rw [HX.out] at this; exact this.ext (Ext.refl _).drew)
    have HL1 : Hid ((Le.le 2 (bytesI o.name).length ++ (bytesI o.name ++ (Le.le 4 o.l ++ (Le.le 2 o.p ++ (Le.le 1 (o.rows.length : Nat) ++ R5))))).length ≤ 1099511627000) := Lib.hid (by simp [Le.le_length, bytesI_len]; omega)
    have HL2 : Hid ((Le.le 4 o.l ++ (Le.le 2 o.p ++ (Le.le 1 (o.rows.length : Nat) ++ R5))).length ≤ 1099511626000) := Lib.hid (by simp [Le.le_length]; omega)
    have HL3 : Hid ((bytesI o.name).length ≤ 1000) := Lib.hid (by rw [bytesI_len]; omega)
    have HN1 : Hid (o.num < 256 ^ 4) := Lib.hid (by have := HF.out.num.2; omega)
    have HPd := Lib.hid (HP4.out.ext_ (Ext.refl _).drew)
    go_upto_region 8 with fail
    go_cut [] from 23 to 30 (fun wx => Hid (PS w wx w.heap.size g g5 ⟨o.kind, o.num, o.name, 0, 0, 0, none, 0, 0, [], 0, 0, 0, 0⟩ (Le.le 4 o.l ++ (Le.le 2 o.p ++ (Le.le 1 (o.rows.length : Nat) ++ R5)))))
    case first =>
      clear k0 HP4
      go_region_with (first
        | (go_at_call 156; refine (numB_calls g (w.heap.size + 1) _ false 4 o.num _ HRD4.out (by decide) HL1.out HF.out.num.1 HN1.out).mono ?_; rintro e w5 ⟨rfl, hr5, hc5⟩; have HP5 := Lib.hid (HPd.out.num hr5 hc5); clear hr5 hc5; have HP5s := Lib.hid (HP5.out.set (i := 1) (u := .int .u32 o.num) (o' := ⟨o.kind, o.num, ⟨#[]⟩, 0, 0, 0, none, 0, 0, [], 0, 0, 0, 0⟩) rfl); have k1 := blk_cell (i := 1) HP5.out.box (Ext.refl _) rfl; have f1 := Pack.free_of HP5.out.box 1)
        | (go_at_call 157; refine (textB_calls g (w.heap.size + 1) _ (bytesI o.name) false _ HP5.out.rd HL2.out HL3.out).mono ?_; rintro e w6 ⟨A6, c6, rfl, ho6, hr6, hc6⟩; have HP6 := Lib.hid (HP5.out.num hr6 hc6); have hcv := str8 c6 (ho6.rd (bytesI_wf o.name)); rw [str_bytes] at hcv; have hcv2 := str8 c6 (rd_new_set (i := 1) (u := .int .u32 o.num) ho6 (bytesI_wf o.name) (Pack.lt_of_at HP5.out.box)); rw [str_bytes] at hcv2; clear hr6 hc6; have k1 := blk_cell (i := 1) HP6.out.box (Ext.refl _) rfl; have f1 := Pack.free_of HP6.out.box 1; have k2 := blk_cell (i := 2) HP6.out.box (Ext.refl _) rfl; have f2 := Pack.free_of HP6.out.box 2)
        | (go_at_call 157; refine (textB_calls g (w.heap.size + 1) _ (bytesI o.name) false _ HP5s.out.rd HL2.out HL3.out).mono ?_; rintro e w6 ⟨A6, c6, rfl, ho6, hr6, hc6⟩; have HP6 := Lib.hid (HP5s.out.num hr6 hc6); have hcv := str8 c6 (ho6.rd (bytesI_wf o.name)); rw [str_bytes] at hcv; clear hr6 hc6; have k2 := blk_cell (i := 2) HP6.out.box (Ext.refl _) rfl; have f2 := Pack.free_of HP6.out.box 2))
      all_goals
        go_wp2_with fail
        go_meet
        exact Lib.hid ((HP6.out.set (i := 1) (u := .int .u32 o.num) (o' := ⟨o.kind, o.num, ⟨#[]⟩, 0, 0, 0, none, 0, 0, [], 0, 0, 0, 0⟩) rfl).set rfl)
    case rest =>
      clear k0 HP4 HRD4 HL1 HL3 HN1 HPd
      have HP6 := hcut
      clear hcut
      go_wp2_with fail
      refine (numB_calls g (w.heap.size + 1) (Le.le 2 o.p ++ (Le.le 1 (o.rows.length : Nat) ++ R5)) false 4 o.l _ HP6.out.rd (by decide) (by simp [Le.le_length]; omega) l0 (by omega)).mono ?_
      rintro e w7 ⟨rfl, hr7, hc7⟩
      have HP7 := Lib.hid (HP6.out.num hr7 hc7)
      clear hr7 hc7 HP6
      go_wp2_with fail
      refine (numB_calls g (w.heap.size + 1) (Le.le 1 (o.rows.length : Nat) ++ R5) false 2 o.p _ HP7.out.rd (by decide) (by simp [Le.le_length]; omega) (by omega) (by omega)).mono ?_
      rintro e w8 ⟨rfl, hr8, hc8⟩
      have HP8 := Lib.hid (HP7.out.num hr8 hc8)
      clear hr8 hc8 HP7
      go_upto_region 10 with (refine Splice.wpList_storeB 77 _ _ rfl rfl rfl g5 3 #[.int .i64 o.l, .int .i64 0, .int .i64 o.p] rfl rfl 82 _ HP8.out.box (by kernel_rfl) (by simp) (by simp [Value.oneCell']) ?_; intro w9 hg9 hc9)
      have HP9 : Hid (PS w w9 w.heap.size g g5 ⟨o.kind, o.num, o.name, o.l, 0, o.p, none, 0, 0, [], 0, 0, 0, 0⟩ (Le.le 1 (o.rows.length : Nat) ++ R5)) := Lib.hid (HP8.out.put (by simpa [Splice.putAt] using hg9) hc9)
      clear hg9 hc9 HP8
      have HB9 : Hid (w.heap.size + 1 ≤ w9.heap.size) := Lib.hid (by have := Pack.lt_of_at HP9.out.res; omega)
      go_wp2_with fail
      refine (places_calls g (w.heap.size + 1) sl o.rows [] w9 (by have := HP9.out.rd; rw [HR5.out] at this; exact this) HB9.out (by rw [HRL.out]; exact hn32) HRW.out hsl (by simp)).mono ?_
      rintro e w10 ⟨A', c', l', rfl, hgot, hr10⟩
      have HP10 := Lib.hid (HP9.out.num hr10 hgot.chg)
      have HRN := Lib.hid hgot.rowsN
      have HG5 : Hid (g5 < w9.heap.size) := Lib.hid (Pack.lt_of_at HP9.out.box)
      have HW9 : Hid (w.heap.size < w9.heap.size) := Lib.hid (Pack.lt_of_at HP9.out.res)
      rw [HRL.out]
      clear hgot hr10 HP9
      have k6 : w10.cell? ⟨g5, 6, none⟩ = some (.slice none 0 0) := blk_cell (i := 6) HP10.out.box (Ext.refl _) rfl
      have f6 : w10.frozen? ⟨g5, 6, none⟩ = false := Pack.free_of HP10.out.box 6
      go_upto_region 11 with fail
      have HP11 : Hid (PS w (w10.setCell ⟨g5, 6, none⟩ (.slice A' o.n c')) w.heap.size g g5 ⟨o.kind, o.num, o.name, o.l, 0, o.p, A', o.n, c', l', 0, 0, 0, 0⟩ []) := Lib.hid (HP10.out.set rfl)
      have hcs : Chg (fun i => i = g5) w10 (w10.setCell ⟨g5, 6, none⟩ (.slice A' o.n c')) := (Chg.refl (fun i => i = g5) w10).setCell (p := ⟨g5, 6, none⟩) rfl _
      generalize w10.setCell ⟨g5, 6, none⟩ (.slice A' o.n c') = w11 at *
      have HRN1 := Lib.hid (HRN.out.chg hcs fun i hi => by have hi : i = g5 := hi; rw [hi]; exact HG5.out)
      clear hcs HRN HP10 k6 f6
      have k6 : w11.cell? ⟨g5, 6, none⟩ = some (.slice A' o.n c') := blk_cell (i := 6) HP11.out.box (Ext.refl _) rfl
      have k4 : w11.cell? ⟨g5, 4, none⟩ = some (.int .i64 0) := blk_cell (i := 4) HP11.out.box (Ext.refl _) rfl
      have f4 : w11.frozen? ⟨g5, 4, none⟩ = false := Pack.free_of HP11.out.box 4
      go_upto_region 17 with fail
      have HP : Hid (PS w (w11.setCell ⟨g5, 4, none⟩ (.int .i64 (o.n : Nat))) w.heap.size g g5 ⟨o.kind, o.num, o.name, o.l, o.n, o.p, A', o.n, c', l', 0, 0, 0, 0⟩ []) := Lib.hid (HP11.out.set rfl)
      have hcs : Chg (fun i => i = g5) w11 (w11.setCell ⟨g5, 4, none⟩ (.int .i64 (o.n : Nat))) := (Chg.refl (fun i => i = g5) w11).setCell (p := ⟨g5, 4, none⟩) rfl _
      generalize w11.setCell ⟨g5, 4, none⟩ (.int .i64 (o.n : Nat)) = w12 at *
      have HRN2 := Lib.hid (HRN1.out.chg hcs fun i hi => by have hi : i = g5 := hi; rw [hi]; exact HG5.out)
      have HSAME := Lib.hid HRN2.out.same
      have HAT : Hid (∀ (S : Nat → Prop) (W : World), Chg S w12 W → (∀ i, S i → i < w9.heap.size) → OpAt W (⟨o.kind, o.num, o.name, o.l, o.n, o.p, A', o.n, c', l', 0, 0, 0, 0⟩ : Tbl.Op)) := Lib.hid fun S W hc hS => by
        have h1 := HRN2.out.chg hc hS
        obtain ⟨h2, h3⟩ := h1.ok HRW.out
        rw [HRL.out] at h2
        exact ⟨by show (Lit.int .u32 o.num).wf = true; exact WalkArith.wf_u32 ⟨HF.out.num.1, by have := HF.out.num.2; omega⟩, by show o.name.size ≤ _; omega, by show (Lit.int .i64 o.l).wf = true; exact WalkArith.wf_i64 ⟨by omega, by omega⟩, by show (Lit.int .i64 ((o.n : Nat) : Int)).wf = true; exact WalkArith.wf_i64 ⟨by omega, by omega⟩, by show (Lit.int .i64 o.p).wf = true; exact WalkArith.wf_i64 ⟨by omega, by omega⟩, h2, by show o.n ≤ _; omega, fun r hr => by have := h3 r hr; omega, by show (Lit.int .u32 0).wf = true; decide, by show (Lit.int .i64 0).wf = true; decide⟩
      clear hcs HRN1 HP11 k6 k4 f4 HRN2
      have HLK : Hid (Like2 (norm o) (⟨o.kind, o.num, o.name, o.l, o.n, o.p, A', o.n, c', l', 0, 0, 0, 0⟩ : Tbl.Op)) := Lib.hid (by
        rw [norm_two HKK.out]
        exact ⟨rfl, rfl, HSAME.out, fun k => absurd (HKK.out.symm.trans k) (by decide), fun _ => ⟨rfl, rfl, rfl, rfl, hcn.symm⟩, fun k => absurd (HKK.out.symm.trans k) (by decide), fun k => absurd (HKK.out.symm.trans k) (by decide)⟩)
      go_wp2_with fail
      refine (done_calls g (w.heap.size + 1) _ HP.out.rd).mono ?_
      rintro e w8 ⟨rfl, he8⟩
      have HB8 := Lib.hid (he8.at_ HP.out.box)
      have HR8 := Lib.hid (he8.at_ HP.out.res)
      have HE8 := Lib.hid (HP.out.ext.trans he8)
      have HX8 := Lib.hid he8
      clear he8 HP
      go_wp2_with (first | (refine wpList_load_rowG rfl 82 _ rfl g5 rfl 82 #[.int .i64 o.kind, .int .u32 o.num, .string o.name, .int .i64 o.l, .int .i64 (o.n : Nat), .int .i64 o.p, .slice A' o.n c', .int .i64 0, .int .i64 0, .int .i64 0, .int .u32 0] (0, 0) _ HB8.out Try.underlying82 rfl (by kernel_rfl) ?_) | (refine RowSt.wpList_put 82 _ _ rfl rfl rfl w.heap.size #[.int .i64 o.kind, .int .u32 o.num, .string o.name, .int .i64 o.l, .int .i64 (o.n : Nat), .int .i64 o.p, .slice A' o.n c', .int .i64 0, .int .i64 0, .int .i64 0, .int .u32 0] rfl rfl 82 _ HR8.out (by kernel_rfl) rfl (by simp [Value.oneCell']) ?_; intro w9 hb9 hc9))
      refine bodyPost_ret (v := .tuple #[.agg #[.int .i64 o.kind, .int .u32 o.num, .string o.name, .int .i64 o.l, .int .i64 (o.n : Nat), .int .i64 o.p, .slice A' o.n c', .int .i64 0, .int .i64 0, .int .i64 0, .int .u32 0], .int .i64 0]) (RowSt.results_cell_tmp (p := 2) (q := 3) rfl _ _ w.heap.size 82 _ (0, 0) _ rfl hb9 Try.underlying82 rfl (by kernel_rfl)) rfl ?_
      exact HQ.out (⟨o.kind, o.num, o.name, o.l, o.n, o.p, A', o.n, c', l', 0, 0, 0, 0⟩ : Tbl.Op) w9 (HE8.out.chg hc9 fun i hi => by have hi : i = w.heap.size := hi; omega) HLK.out (HAT.out (fun i => i = w.heap.size) w9 ((Below.chg HX8.out : Chg (fun i => i = w.heap.size) _ _).trans hc9) fun i hi => by have hi : i = w.heap.size := hi; rw [hi]; exact HW9.out)
  by_cases h3 : o.kind = 3
  · have hk1 : (o.kind == 1) = false := by simp [h1]
    have hk2 : (o.kind == 2) = false := by simp [h2]
    have hk : (o.kind == 3) = true := by simp [h3]
    have HKK := Lib.hid h3
    have hfn := HF.out.name (.inr h3)
    have HX : Hid (opR o = Le.le 2 (bytesI o.name).length ++ (bytesI o.name ++ [])) := Lib.hid (by unfold opR textB; rw [if_neg h1, if_neg h2, if_pos h3, List.append_nil, bytesI_len])
    clear h1 h2 h3
    go_wp2_with fail
    refine (textB_calls g (w.heap.size + 1) [] (bytesI o.name) false w4 (by have := HP4.out.rd; rw [HX.out] at this; exact this) (by simp) (by rw [bytesI_len]; omega)).mono ?_
    rintro e w5 ⟨A5, c5, rfl, ho5, hr5, hc5⟩
    have HP5 := Lib.hid (HP4.out.num hr5 hc5)
    have hcv := str8 c5 (ho5.rd (bytesI_wf o.name))
    rw [str_bytes] at hcv
    clear hr5 hc5 HP4 k0 ho5
    have k2 : w5.cell? ⟨g5, 2, none⟩ = some (.string ⟨#[]⟩) := blk_cell (i := 2) HP5.out.box (Ext.refl _) rfl
    have f2 : w5.frozen? ⟨g5, 2, none⟩ = false := Pack.free_of HP5.out.box 2
    go_upto_region 17 with fail
    have hs := set_blk (i := 2) HP5.out.box (.string o.name)
    have hcs : Chg (fun i => i = g5) w5 (w5.setCell ⟨g5, 2, none⟩ (.string o.name)) := (Chg.refl (fun i => i = g5) w5).setCell (p := ⟨g5, 2, none⟩) rfl _
    generalize w5.setCell ⟨g5, 2, none⟩ (.string o.name) = w6 at *
    have HP : Hid (PS w w6 w.heap.size g g5 ⟨o.kind, 0, o.name, 0, 0, 0, none, 0, 0, [], 0, 0, 0, 0⟩ []) := Lib.hid (HP5.out.put (by simpa using hs) hcs)
    clear hs hcs HP5 k2 f2 hcv
    have HLK : Hid (Like2 (norm o) ⟨o.kind, 0, o.name, 0, 0, 0, none, 0, 0, [], 0, 0, 0, 0⟩) := Lib.hid (by
      have e := HKK.out
      have e2 : ¬ o.kind = 2 := by omega
      unfold norm
      rw [if_neg e2]
      exact ⟨rfl, rfl, rfl, fun k => absurd (HKK.out.symm.trans k) (by decide), fun k => absurd k e2, fun _ => rfl, fun k => absurd (HKK.out.symm.trans k) (by decide)⟩)
    go_wp2_with fail
    refine (done_calls g (w.heap.size + 1) _ HP.out.rd).mono ?_
    rintro e w8 ⟨rfl, he8⟩
    have HB8 := Lib.hid (he8.at_ HP.out.box)
    have HR8 := Lib.hid (he8.at_ HP.out.res)
    have HE8 := Lib.hid (HP.out.ext.trans he8)
    have HX8 := Lib.hid he8
    clear he8 HP
    go_wp2_with (first | (refine wpList_load_rowG rfl 82 _ rfl g5 rfl 82 #[.int .i64 o.kind, .int .u32 0, .string o.name, .int .i64 0, .int .i64 0, .int .i64 0, .slice none 0 0, .int .i64 0, .int .i64 0, .int .i64 0, .int .u32 0] (0, 0) _ HB8.out Try.underlying82 rfl (by kernel_rfl) ?_) | (refine RowSt.wpList_put 82 _ _ rfl rfl rfl w.heap.size #[.int .i64 o.kind, .int .u32 0, .string o.name, .int .i64 0, .int .i64 0, .int .i64 0, .slice none 0 0, .int .i64 0, .int .i64 0, .int .i64 0, .int .u32 0] rfl rfl 82 _ HR8.out (by kernel_rfl) rfl (by simp [Value.oneCell']) ?_; intro w9 hb9 hc9))
    refine bodyPost_ret (v := .tuple #[.agg #[.int .i64 o.kind, .int .u32 0, .string o.name, .int .i64 0, .int .i64 0, .int .i64 0, .slice none 0 0, .int .i64 0, .int .i64 0, .int .i64 0, .int .u32 0], .int .i64 0]) (RowSt.results_cell_tmp (p := 2) (q := 3) rfl _ _ w.heap.size 82 _ (0, 0) _ rfl hb9 Try.underlying82 rfl (by kernel_rfl)) rfl ?_
    exact HQ.out ⟨o.kind, 0, o.name, 0, 0, 0, none, 0, 0, [], 0, 0, 0, 0⟩ w9 (HE8.out.chg hc9 fun i hi => by have hi : i = w.heap.size := hi; omega) HLK.out (at_flat (Int.le_refl _) (by decide) (by omega) (Int.le_refl _) (by decide) (Int.le_refl _) (by decide))
  · have h4 : o.kind = 4 := by have := HK0.out; omega
    have hk1 : (o.kind == 1) = false := by simp [h1]
    have hk2 : (o.kind == 2) = false := by simp [h2]
    have hk3 : (o.kind == 3) = false := by simp [h3]
    have hk : (o.kind == 4) = true := by simp [h4]
    have HKK := Lib.hid h4
    obtain ⟨s0, s1, t0, t1, n0, n1, g0, g1⟩ := HF.out.c4 h4
    have HX : Hid (opR o = Le.le 4 o.num ++ (Le.le 1 o.stripe ++ (Le.le 1 o.slot ++ (Le.le 1 o.node ++ (Le.le 4 o.gen ++ []))))) := Lib.hid (by unfold opR; rw [if_neg h1, if_neg h2, if_neg h3, List.append_nil])
    have W1 : IntKind.i64.wrap o.stripe = o.stripe := IntWalk.i64_in _ (by omega)
    have W2 : IntKind.i64.wrap o.slot = o.slot := IntWalk.i64_in _ (by omega)
    have W3 : IntKind.i64.wrap o.node = o.node := IntWalk.i64_in _ (by omega)
    have W4 : IntKind.u32.wrap o.gen = o.gen := IntWalk.u32_in _ (by omega)
    clear h1 h2 h3 h4
    go_wp2_with fail
    refine (numB_calls g (w.heap.size + 1) (Le.le 1 o.stripe ++ (Le.le 1 o.slot ++ (Le.le 1 o.node ++ (Le.le 4 o.gen ++ [])))) false 4 o.num w4 (by have := HP4.out.rd; rw [HX.out] at this; exact this) (by decide) (by simp [Le.le_length]) HF.out.num.1 (by have := HF.out.num.2; omega)).mono ?_
    rintro e w5 ⟨rfl, hr5, hc5⟩
    have HP5 := Lib.hid (HP4.out.num hr5 hc5)
    clear hr5 hc5 HP4 k0
    go_wp2_with fail
    refine (numB_calls g (w.heap.size + 1) (Le.le 1 o.slot ++ (Le.le 1 o.node ++ (Le.le 4 o.gen ++ []))) false 1 o.stripe w5 HP5.out.rd (by decide) (by simp [Le.le_length]) s0 (by omega)).mono ?_
    rintro e w6 ⟨rfl, hr6, hc6⟩
    have HP6 := Lib.hid (HP5.out.num hr6 hc6)
    clear hr6 hc6 HP5
    go_wp2_with fail
    refine (numB_calls g (w.heap.size + 1) (Le.le 1 o.node ++ (Le.le 4 o.gen ++ [])) false 1 o.slot w6 HP6.out.rd (by decide) (by simp [Le.le_length]) t0 (by omega)).mono ?_
    rintro e w7 ⟨rfl, hr7, hc7⟩
    have HP7 := Lib.hid (HP6.out.num hr7 hc7)
    clear hr7 hc7 HP6
    have k1 : w7.cell? ⟨g5, 1, none⟩ = some (.int .u32 0) := blk_cell (i := 1) HP7.out.box (Ext.refl _) rfl
    have f1 : w7.frozen? ⟨g5, 1, none⟩ = false := Pack.free_of HP7.out.box 1
    have k7 : w7.cell? ⟨g5, 7, none⟩ = some (.int .i64 0) := blk_cell (i := 7) HP7.out.box (Ext.refl _) rfl
    have f7 : w7.frozen? ⟨g5, 7, none⟩ = false := Pack.free_of HP7.out.box 7
    have k8 : w7.cell? ⟨g5, 8, none⟩ = some (.int .i64 0) := blk_cell (i := 8) HP7.out.box (Ext.refl _) rfl
    have f8 : w7.frozen? ⟨g5, 8, none⟩ = false := Pack.free_of HP7.out.box 8
    go_upto_region 16 with fail
    have hs1 := set_blk (i := 1) HP7.out.box (.int .u32 o.num)
    have hs2 := set_blk (i := 7) hs1 (.int .i64 o.stripe)
    have hs := set_blk (i := 8) hs2 (.int .i64 o.slot)
    have hcs : Chg (fun i => i = g5) w7 (((w7.setCell ⟨g5, 1, none⟩ (.int .u32 o.num)).setCell ⟨g5, 7, none⟩ (.int .i64 o.stripe)).setCell ⟨g5, 8, none⟩ (.int .i64 o.slot)) := (((Chg.refl (fun i => i = g5) w7).setCell (p := ⟨g5, 1, none⟩) rfl _).setCell (p := ⟨g5, 7, none⟩) rfl _).setCell (p := ⟨g5, 8, none⟩) rfl _
    clear hs1 hs2
    generalize ((w7.setCell ⟨g5, 1, none⟩ (.int .u32 o.num)).setCell ⟨g5, 7, none⟩ (.int .i64 o.stripe)).setCell ⟨g5, 8, none⟩ (.int .i64 o.slot) = w10 at *
    have HP10 : Hid (PS w w10 w.heap.size g g5 ⟨o.kind, o.num, ⟨#[]⟩, 0, 0, 0, none, 0, 0, [], o.stripe, o.slot, 0, 0⟩ (Le.le 1 o.node ++ (Le.le 4 o.gen ++ []))) := Lib.hid (HP7.out.put (by simpa using hs) hcs)
    clear hs hcs HP7 k1 f1 k7 f7 k8 f8
    go_wp2_with fail
    refine (numB_calls g (w.heap.size + 1) (Le.le 4 o.gen ++ []) false 1 o.node w10 HP10.out.rd (by decide) (by simp [Le.le_length]) n0 (by omega)).mono ?_
    rintro e w11 ⟨rfl, hr11, hc11⟩
    have HP11 := Lib.hid (HP10.out.num hr11 hc11)
    clear hr11 hc11 HP10
    go_wp2_with fail
    refine (numB_calls g (w.heap.size + 1) [] false 4 o.gen w11 HP11.out.rd (by decide) (by simp) g0 (by omega)).mono ?_
    rintro e w12 ⟨rfl, hr12, hc12⟩
    have HP12 := Lib.hid (HP11.out.num hr12 hc12)
    clear hr12 hc12 HP11
    go_upto_region 17 with (refine Splice.wpList_storeB 80 _ _ rfl rfl rfl g5 9 #[.int .i64 o.node, .int .u32 o.gen] rfl rfl 82 _ HP12.out.box (by kernel_rfl) (by simp) (by simp [Value.oneCell']) ?_; intro w13 hg13 hc13)
    have HP : Hid (PS w w13 w.heap.size g g5 ⟨o.kind, o.num, ⟨#[]⟩, 0, 0, 0, none, 0, 0, [], o.stripe, o.slot, o.node, o.gen⟩ []) := Lib.hid (HP12.out.put (by simpa [Splice.putAt] using hg13) hc13)
    clear hg13 hc13 HP12
    have HLK : Hid (Like2 (norm o) ⟨o.kind, o.num, ⟨#[]⟩, 0, 0, 0, none, 0, 0, [], o.stripe, o.slot, o.node, o.gen⟩) := Lib.hid (by
      have e := HKK.out
      have e2 : ¬ o.kind = 2 := by omega
      unfold norm
      rw [if_neg e2]
      exact ⟨rfl, rfl, rfl, fun k => absurd (HKK.out.symm.trans k) (by decide), fun k => absurd k e2, fun k => absurd (HKK.out.symm.trans k) (by decide), fun _ => ⟨rfl, rfl, rfl, rfl, rfl⟩⟩)
    go_wp2_with fail
    refine (done_calls g (w.heap.size + 1) _ HP.out.rd).mono ?_
    rintro e w8 ⟨rfl, he8⟩
    have HB8 := Lib.hid (he8.at_ HP.out.box)
    have HR8 := Lib.hid (he8.at_ HP.out.res)
    have HE8 := Lib.hid (HP.out.ext.trans he8)
    have HX8 := Lib.hid he8
    clear he8 HP
    go_wp2_with (first | (refine wpList_load_rowG rfl 82 _ rfl g5 rfl 82 #[.int .i64 o.kind, .int .u32 o.num, .string ⟨#[]⟩, .int .i64 0, .int .i64 0, .int .i64 0, .slice none 0 0, .int .i64 o.stripe, .int .i64 o.slot, .int .i64 o.node, .int .u32 o.gen] (0, 0) _ HB8.out Try.underlying82 rfl (by kernel_rfl) ?_) | (refine RowSt.wpList_put 82 _ _ rfl rfl rfl w.heap.size #[.int .i64 o.kind, .int .u32 o.num, .string ⟨#[]⟩, .int .i64 0, .int .i64 0, .int .i64 0, .slice none 0 0, .int .i64 o.stripe, .int .i64 o.slot, .int .i64 o.node, .int .u32 o.gen] rfl rfl 82 _ HR8.out (by kernel_rfl) rfl (by simp [Value.oneCell']) ?_; intro w9 hb9 hc9))
    refine bodyPost_ret (v := .tuple #[.agg #[.int .i64 o.kind, .int .u32 o.num, .string ⟨#[]⟩, .int .i64 0, .int .i64 0, .int .i64 0, .slice none 0 0, .int .i64 o.stripe, .int .i64 o.slot, .int .i64 o.node, .int .u32 o.gen], .int .i64 0]) (RowSt.results_cell_tmp (p := 2) (q := 3) rfl _ _ w.heap.size 82 _ (0, 0) _ rfl hb9 Try.underlying82 rfl (by kernel_rfl)) rfl ?_
    exact HQ.out ⟨o.kind, o.num, ⟨#[]⟩, 0, 0, 0, none, 0, 0, [], o.stripe, o.slot, o.node, o.gen⟩ w9 (HE8.out.chg hc9 fun i hi => by have hi : i = w.heap.size := hi; omega) HLK.out (at_flat HF.out.num.1 HF.out.num.2 (Nat.zero_le _) g0 g1 n0 n1)
end Go.Proofs.Ytipmkddcdnbihaa.Bk
/- A tape and a diary beside a table: what they write hides nothing of the table. -/
namespace Go.Proofs.Ytipmkddcdnbihaa.Bk
open Go.RowKit Base Step Vec Shape Erase
open Diary (Both Or2)
/-- A block of which tapes and diaries are made. -/
def Pl (w : World) (i : Nat) : Prop := ∃ cs T f, w.heap[i]? = some (.cells cs T f) ∧ plainT T = true
theorem own_pl {w : World} {S : Nat → Prop} {e : TypeId} {size n : Nat} {v : Value} {xs : List Value} (h : Own w S e size v n xs) (he : plainT e = true) : Own w (fun i => S i ∧ Pl w i) e size v n xs := by
  refine ⟨h.row, fun k hk => ⟨h.foot k hk, ?_⟩⟩
  rcases h.row.2 with ⟨h2, _⟩ | ⟨g, cap, cur, rfl, hb, hh, h3⟩
  · rw [h2] at hk
    cases hk
  · cases hk
    exact ⟨_, _, _, hh, he⟩
theorem tape_pl {w : World} {S : Nat → Prop} {g : Nat} {bs : List Int} {safe : Nat} {most : Int} (h : Tape.Tape w S g bs safe most) : Tape.Tape w (fun i => S i ∧ Pl w i) g bs safe most := by
  obtain ⟨A, n, c, h⟩ := h
  exact ⟨A, n, c, h.at_, own_pl h.own (by decide), ⟨h.foot, _, _, _, h.at_, by decide⟩, h.wf, fun i hi => h.lt i hi.1, h.safe, h.most⟩
theorem diary_pl {w : World} {S : Nat → Prop} {g gt n : Nat} {xs : List (List Int)} (h : Diary.Diary w S g gt xs n) : Diary.Diary w (fun i => S i ∧ Pl w i) g gt xs n := by
  obtain ⟨A, m, c, h⟩ := h
  obtain ⟨vs, h1, h2⟩ := h.rows
  exact ⟨A, m, c, h.at_, ⟨vs, own_pl h1 (by decide), h2.imp fun v x ⟨A, n, c, e, k1, k2⟩ => ⟨A, n, c, e, own_pl k1 (by decide), k2⟩⟩, ⟨h.foot, _, _, _, h.at_, by decide⟩, fun i hi => h.lt i hi.1, h.n⟩
theorem both_pl {w : World} {St Sd : Nat → Prop} {gt g : Nat} {bs : List Int} {safe : Nat} {most : Int} {xs : List (List Int)} {n : Nat} (h : Both w St Sd gt g bs safe most xs n) : Both w (fun i => St i ∧ Pl w i) (fun i => Sd i ∧ Pl w i) gt g bs safe most xs n :=
  ⟨tape_pl h.t, diary_pl h.d, fun i h1 h2 => h.sep i h1.1 h2.1⟩
/-- What a book's calls write: from block N on, the table's block, and blocks of which tapes and diaries are made. -/
def Wr (N gt : Nat) (w : World) (i : Nat) : Prop := N ≤ i ∧ (i = gt ∨ Pl w i)
abbrev BkChg (N gt : Nat) (w w' : World) : Prop := Chg (Wr N gt w) w w'
theorem BkChg.refl (N gt : Nat) (w : World) : BkChg N gt w w := Chg.refl _ _
theorem chg_ext {S : Nat → Prop} {a b c : World} (h : Chg S a b) (k : Ext b c) : Chg S a c :=
  ⟨k.os.trans h.os, k.tape.trans h.tape, k.output.trans h.output, Nat.le_trans h.size k.size, fun i hi hn => (k.block i (Nat.lt_of_lt_of_le hi h.size)).trans (h.block i hi hn)⟩
theorem ext_bk {N gt : Nat} {w w' : World} (h : Ext w w') : BkChg N gt w w' := Below.chg h
theorem BkChg.trans {N gt : Nat} {a b c : World} (h : BkChg N gt a b) (k : BkChg N gt b c) : BkChg N gt a c :=
  ⟨k.os.trans h.os, k.tape.trans h.tape, k.output.trans h.output, Nat.le_trans h.size k.size, fun i hi hn =>
    (k.block i (Nat.lt_of_lt_of_le hi h.size) fun hs => hn ⟨hs.1, hs.2.elim .inl fun ⟨cs, T, f, h1, h2⟩ => .inr ⟨cs, T, f, (h.block i hi hn) ▸ h1, h2⟩⟩).trans (h.block i hi hn)⟩
theorem bk_pl {N gt : Nat} {S : Nat → Prop} {w w' : World} (h : Chg S w w') (hS : ∀ i, S i → N ≤ i ∧ Pl w i) : BkChg N gt w w' := h.mono fun i _ hi => ⟨(hS i hi).1, .inr (hS i hi).2⟩
theorem bk_gt {N gt : Nat} {w w' : World} (h : Chg (fun i => i = gt) w w') (hN : N ≤ gt) : BkChg N gt w w' := h.mono fun i _ hi => ⟨by rw [hi]; exact hN, .inl hi⟩
/-- All that was there ahead is as it was. -/
theorem BkChg.grown {N gt : Nat} {w0 w w' : World} (h : BkChg N gt w w') (he : Ext w0 w) (hN : w0.heap.size ≤ N) : Ext w0 w' := he.chg h fun i hi => Nat.le_trans hN hi.1
theorem tb_pl {w W : World} {gt sl nd : Nat} {t : Tbl.Tb} {S : Nat → Prop} (h : Tbl.TbAt w gt sl nd t) (hc : Chg S w W) (hS : ∀ i, S i → Pl w i) : Tbl.TbAt W gt sl nd t :=
  ⟨hc.at_ h.at_ (fun k => by
    obtain ⟨cs, T, f, h1, h2⟩ := hS _ k
    rw [h.at_] at h1
    cases h1
    exact absurd h2 (by decide)), Sh.ok_plain h.ok hc hS⟩
end Go.Proofs.Ytipmkddcdnbihaa.Bk
/- A table's Copy: walked. -/
namespace Go.Proofs.Ytipmkddcdnbihaa.Tbl
open Go.RowKit Base Step Vec Shape Erase
open Bk (drop_at take_at set_mid)
/-- Whoever stands in blocks of its own is read beside a table's own block. -/
theorem Stood.ok3 {w W : World} {o : Obj} {g : Nat} {cs : Array Value} {f : Nat × Nat} (h : Stood w W o) (hg : W.heap[g]? = some (.cells cs 194 f)) : objS.ok (erase W g) o := by
  have hrows : (Sh.sl rowS).ok (erase W g) (pA o, pN o, pC o, rows o) := by
    refine ok_own (W := W) (e := rowS) h.prow (by decide) h.len (fun r hr => ?_) (fun a v hb hc => cell_erase hc (own_not h.prow (by decide) hb) fun e => ?_) (own_max h.prow)
    · obtain ⟨hn, hl, hx⟩ := h.each r hr
      refine ok_own (W := W) (e := plS) hn (by decide) hl (fun x hxm => hx x hxm _) (fun a v hb hc => cell_erase hc (own_not hn (by decide) hb) fun e => ?_) (own_max hn)
      refine hn.ne hg (by decide) ?_
      cases hA : r.1 with
      | none => rw [hA] at hb; simp at hb
      | some ad =>
        rw [hA] at hb
        simp at hb
        show Value.ownBlock (.slice r.1 _ _) = some g
        rw [hA, ← e, ← hb]
        rfl
    · refine h.prow.ne hg (by decide) ?_
      cases hA : pA o with
      | none => rw [hA] at hb; simp at hb
      | some ad =>
        rw [hA] at hb
        simp at hb
        rw [← e, ← hb]
        rfl
  have hall : (Lit.int .u32 o.1).wf = true ∧ o.2.1.size ≤ maxLen ∧ planS.ok (erase W g) o.2.2.1 ∧ (Sh.sl rowS).ok (erase W g) (pA o, pN o, pC o, rows o) ∧ True :=
    ⟨h.n, h.s, h.p _, hrows, trivial⟩
  exact hall
theorem new_objs3 {W : World} {S : Nat → Prop} {g : Nat} {cs : Array Value} {f : Nat × Nat} {A : Option Addr} {n c : Nat} {objs : List Obj} (hg : W.heap[g]? = some (.cells cs 194 f)) (ho : Own W S 196 6 (.slice A n c) n (cellsL objS objs)) (hl : objs.length = n) (hx : ∀ x ∈ objs, objS.ok (erase W g) x) : (Sh.sl objS).ok (erase W g) (A, n, c, objs) :=
  ok_own (W := W) ho (by decide) hl hx (fun a v hb hc => cell_erase hc (own_not ho (by decide) hb) fun e => ho.ne hg (by decide) (by
    rcases A with _ | ad
    · simp at hb
    · simp at hb
      rw [← e, ← hb]
      rfl)) (own_max ho)
theorem Stood.from {w0 w W : World} {o : Obj} (h : Stood w W o) (he : w0.heap.size ≤ w.heap.size) : Stood w0 W o :=
  ⟨h.n, h.s, h.p, h.len, h.prow.mono fun _ _ k => Nat.le_trans he k, fun r hr => ⟨(h.each r hr).1.mono fun _ _ k => Nat.le_trans he k, (h.each r hr).2⟩⟩
theorem Copied.view_ {w W : World} {o o' : Obj} (h : Copied w W o o') : view o' = view o := by
  have hr : (rows o').map rP = (rows o).map rP := by
    apply List.ext_getElem?
    intro i
    rw [List.getElem?_map, List.getElem?_map]
    cases ho : (rows o)[i]? with
    | none =>
      have := List.getElem?_eq_none_iff.1 ho
      rw [List.getElem?_eq_none (by rw [h.rlen]; exact this)]
    | some r =>
      have hi := (List.getElem?_eq_some_iff.1 ho).1
      obtain ⟨r', hr'⟩ : ∃ r', (rows o')[i]? = some r' := ⟨_, List.getElem?_eq_getElem (by rw [h.rlen]; exact hi)⟩
      rw [hr', Option.map_some, Option.map_some, (h.alike i r r' ho hr').1.2]
  unfold view
  rw [h.num, h.name, h.plan, hr]
/-- A copy under way: k objects are copies. -/
structure CpSt (w W : World) (g3 sl nd : Nat) (nx ls : Int) (objs : List Obj) (A9 : Option Addr) (c9 k : Nat) (done : List Obj) : Prop where
  at3 : W.heap[g3]? = some (.cells #[.int .i64 sl, .int .i64 nd, .int .u32 nx, .int .u32 ls, .slice A9 objs.length c9] 194 (0, 0))
  row : Own W (fun i => w.heap.size ≤ i) 196 6 (.slice A9 objs.length c9) objs.length (cellsL objS (done ++ objs.drop k))
  len : done.length = k
  view : done.map Tbl.view = (objs.take k).map Tbl.view
  stood : ∀ o ∈ done, Stood w W o
  ext : Ext w W
set_option maxRecDepth 100000 in
set_option maxHeartbeats 8000000 in
theorem copy_calls (gt sl nd : Nat) (t : Tb) (w : World) (h : TbAt w gt sl nd t) (hn : t.n ≤ 1099511627776) (hs : ∀ ob ∈ t.objs, Small ob) :
    Calls Try.prog 92 #[.pointer (some ⟨gt, 0, none⟩)] w fun e w' => ∃ t', e = .returned (.pointer (some ⟨w.heap.size, 0, none⟩)) ∧ Ext w w' ∧ TbAt w' w.heap.size sl nd t' ∧ t'.nx = t.nx ∧ t'.ls = t.ls ∧ t'.n = t.n ∧ t'.objs.map view = t.objs.map view := by
  obtain ⟨nx, ls, A, n, c, objs⟩ := t
  have hn : n ≤ 1099511627776 := hn
  have h : TblAt w gt sl nd nx ls A n c objs := h
  have hln : objs.length = n := (sl_len h.ok).1
  subst hln
  have H := Lib.hid h
  have HS : Hid (∀ ob ∈ objs, Small ob) := Lib.hid hs
  have t0 : w.cell? ⟨gt, 0, none⟩ = some (.int .i64 sl) := blk_cell (i := 0) h.at_ (Ext.refl _) rfl
  have t1 : w.cell? ⟨gt, 1, none⟩ = some (.int .i64 nd) := blk_cell (i := 1) h.at_ (Ext.refl _) rfl
  have t2 : w.cell? ⟨gt, 2, none⟩ = some (.int .u32 nx) := blk_cell (i := 2) h.at_ (Ext.refl _) rfl
  have t3 : w.cell? ⟨gt, 3, none⟩ = some (.int .u32 ls) := blk_cell (i := 3) h.at_ (Ext.refl _) rfl
  have t4 : w.cell? ⟨gt, 4, none⟩ = some (.slice A objs.length c) := blk_cell (i := 4) h.at_ (Ext.refl _) rfl
  have e1 := Ext.new w (.cells #[.int .i64 0, .int .i64 0, .int .u32 0, .int .u32 0, .slice none 0 0] 194)
  clear h hs
  go_enter Try.func92, Try.ntmps92
  go_upto_region 4 with (refine RowSt.wpList_put 194 _ _ rfl rfl rfl w.heap.size #[.int .i64 sl, .int .i64 nd, .int .u32 nx, .int .u32 ls, .slice A objs.length c] rfl rfl 194 _ (at_new _ _) (by kernel_rfl) rfl (by simp [Value.oneCell']) ?_; intro w1 hb1 hc1)
  have E1 := Lib.hid (e1.chg hc1 (fun q k => by have k : q = w.heap.size := k; omega))
  have H1 := Lib.hid (H.out.ext E1.out)
  have B1 := Lib.hid hb1
  have s4 : w1.cell? ⟨gt, 4, none⟩ = some (.slice A objs.length c) := blk_cell (i := 4) H1.out.at_ (Ext.refl _) rfl
  clear t0 t1 t2 t3 t4 e1 hb1 hc1
  go_wp2_with fail
  refine (Clones.cloneObj A objs.length c (cellsL objS objs) w1 (by rw [cellsL_length]; rfl) (fun k => by have h1 := (sl_len H.out.ok).2.1; have h2 := (sl_len H.out.ok).2.2.2 k; omega) (fun ad' ha j u hu => ok_cells (Sh.ok_off H1.out.ok) (by decide) ad' ha j u hu) (cellsL_one_ _ _) (by omega)).mono ?_
  rintro e w2 ⟨he2, A9, c9, rfl, ho9⟩
  have B2 := Lib.hid (he2.at_ B1.out)
  have E2 := Lib.hid (E1.out.trans he2)
  have f4 : w2.frozen? ⟨w.heap.size, 4, none⟩ = false := Pack.free_of B2.out 4
  have f5 : w2.cell? ⟨w.heap.size, 4, none⟩ = some (.slice A objs.length c) := blk_cell (i := 4) B2.out (Ext.refl _) rfl
  have hlt1 : w.heap.size < w1.heap.size := Pack.lt_of_at B1.out
  have HO9 := Lib.hid ho9
  have H2 := Lib.hid (H1.out.ext he2)
  clear he2 ho9 s4
  go_upto_region 5 with fail
  have hs3 := set_blk (w := w2) (i := 4) B2.out (.slice A9 objs.length c9)
  have hc3 : Chg (fun i => i = w.heap.size) w2 (w2.setCell ⟨w.heap.size, 4, none⟩ (.slice A9 objs.length c9)) := (Chg.refl (fun i => i = w.heap.size) w2).setCell (p := ⟨w.heap.size, 4, none⟩) rfl _
  generalize w2.setCell ⟨w.heap.size, 4, none⟩ (.slice A9 objs.length c9) = w3 at *
  have HC0 : Hid (CpSt w w3 w.heap.size sl nd nx ls objs A9 c9 0 []) := Lib.hid ⟨by simpa using hs3, (HO9.out.chg hc3 fun i hi e => by have hi : w1.heap.size ≤ i := hi; have e : i = w.heap.size := e; omega).mono fun i _ (k : w1.heap.size ≤ i) => by omega, rfl, rfl, fun o k => (by cases k), E2.out.chg hc3 fun i (k : i = w.heap.size) => by omega⟩
  have q4 : w3.cell? ⟨w.heap.size, 4, none⟩ = some (.slice A9 objs.length c9) := blk_cell (i := 4) HC0.out.at3 (Ext.refl _) rfl
  clear hs3 hc3 f4 f5
  generalize hg3 : w.heap.size = g3 at *
  go_wp2_with fail
  clear q4
  go_loopg [19] objs.length (fun left i wr => ∃ (k : Nat) (done : List Obj), k ≤ objs.length ∧ left = objs.length - k ∧ i = .int .i64 k ∧ Hid (CpSt w wr g3 sl nd nx ls objs A9 c9 k done))
  case atStart => exact ⟨0, [], Nat.zero_le _, rfl, rfl, HC0⟩
  case round =>
    clear HC0
    obtain ⟨k, done, hk, rfl, rfl, HC⟩ := hrel
    by_cases hlt : k < objs.length
    · obtain ⟨ob, hob⟩ : ∃ ob, objs[k]? = some ob := ⟨_, List.getElem?_eq_getElem hlt⟩
      have hrow := HC.out.row
      rw [drop_at hob] at hrow
      rcases A9 with _ | ad9
      · have := Splice.own_none hrow
        omega
      obtain ⟨g9, cur9, rfl, hg9, hnc9, hcm9, hcs9, hcx9, hS9, hl9⟩ := Splice.blk_own hrow
      have hobk : objS.ok wr ob := Sh.ok_ext ((Ext.refl w).trans HC.out.ext) _ _ (sl_each (Sh.ok_off H.out.ok) hob)
      have hsm := HS.out ob (List.mem_of_getElem? hob)
      have hcx : ∀ j v, (objC ob)[j]? = some v → wr.cell? ⟨g9, k * 6 + j, none⟩ = some v := fun j v hv => by
        have h6 : j < 6 := by have := (List.getElem?_eq_some_iff.1 hv).1; simpa using this
        obtain ⟨ad, h1, h2⟩ := own_cell hrow (j := k * 6 + j) (u := v) (by rw [show k * 6 + j = k * objS.size + j from rfl, cellsL_get (app_at HC.out.len) h6]; exact hv)
        cases h1
        rw [Splice.add_zero_] at h2
        simpa using h2
      have HOBK := Lib.hid hobk
      have HOB := Lib.hid hob
      have HSM := Lib.hid hsm
      have HG9 := Lib.hid hg9
      have HROW := Lib.hid hrow
      have q4 : ∀ W, Ext wr.drew W → W.cell? ⟨g3, 4, none⟩ = some (.slice (some ⟨g9, 0, none⟩) objs.length c9) := fun W hW => blk_cell (i := 4) HC.out.at3 (drew_ext hW) rfl
      have x0 : ∀ W, Ext wr.drew W → W.cell? ⟨g9, k * 6, none⟩ = some (.int .u32 (num ob)) := fun W hW => (drew_ext hW).cell_ (hcx 0 _ rfl)
      have x1 : ∀ W, Ext wr.drew W → W.cell? ⟨g9, k * 6 + 1, none⟩ = some (.string (name ob)) := fun W hW => (drew_ext hW).cell_ (hcx 1 _ rfl)
      have x2 : ∀ W, Ext wr.drew W → W.cell? ⟨g9, k * 6 + 2, none⟩ = some (.int .i64 (plan ob).1) := fun W hW => (drew_ext hW).cell_ (hcx 2 _ rfl)
      have x3 : ∀ W, Ext wr.drew W → W.cell? ⟨g9, k * 6 + 3, none⟩ = some (.int .i64 (plan ob).2.1) := fun W hW => (drew_ext hW).cell_ (hcx 3 _ rfl)
      have x4 : ∀ W, Ext wr.drew W → W.cell? ⟨g9, k * 6 + 4, none⟩ = some (.int .i64 (plan ob).2.2.1) := fun W hW => (drew_ext hW).cell_ (hcx 4 _ rfl)
      have x5 : ∀ W, Ext wr.drew W → W.cell? ⟨g9, k * 6 + 5, none⟩ = some (.slice (pA ob) (pN ob) (pC ob)) := fun W hW => (drew_ext hW).cell_ (hcx 5 _ rfl)
      have hki : ((k : Nat) : Int) < ((objs.length : Nat) : Int) := by omega
      clear hrow hg9 hcx9 hl9 hobk hob hsm hcx
      go_upto_region 8 with fail
      have hsC : (copL wr ob).St Ext := copL_st
      refine Lex.wp_region_u [0, 1, 2, 3, 4, 5, 6, 7, 8, 9] [10] [(8, copL wr ob)] (by kernel_rfl) (by kernel_rfl) (by repeat (first | exact Lex.st_nil | refine Lex.st_cons (by first | exact Lex.nums_st | exact Lex.const_st | exact Lex.such_st | exact Lex.row_st | exact Lex.rowE_st | exact Lex.litR_st | assumption) ?_)) ?_; simp only [Lex.pick, List.getElem?_cons_succ, List.getElem?_cons_zero, List.map_cons, List.map_nil]
      repeat (first | (refine Lex.lexU_skip (by rfl) ?_; simp only [Act.put, List.setIfInBounds_toArray, List.set_cons_zero, List.set_cons_succ]) | (refine Lex.lexU_still (by rfl) (by rfl) (by first | exact Base.Ext.refl | exact Lex.Fill.refl) ?_; apply Exists.intro; refine ⟨fun W hW => ?_, ?_⟩; (have hE := Lex.ext_of_cls hW.1; have hE2 := Lex.ext_drew hE; clear hW; go_simp; try with_reducible rfl); simp only [Act.put, List.setIfInBounds_toArray, List.set_cons_zero, List.set_cons_succ]))
      refine Lex.lexU_loose (by rfl) (by rfl) (fun W hW => ?_) ?_
      · have hE := Lex.ext_drew (Lex.ext_of_cls hW.1)
        clear hW
        go_simp
        refine (copied_calls ob _ (Sh.ok_ext hE _ _ HOBK.out) HSM.out.1 HSM.out.2).mono ?_
        rintro e w8 ⟨o', rfl, hcp⟩
        refine ⟨_, rfl, ⟨pA o', pC o', ?_⟩, hcp.ext, o', rfl, hcp.from hE⟩
        show objV o' = _
        rw [← hcp.num, ← hcp.name, ← hcp.plan, ← hcp.len]
      rintro v ⟨A8, c8, rfl⟩
      simp only [Act.put, List.setIfInBounds_toArray, List.set_cons_zero, List.set_cons_succ]
      repeat (first | (refine Lex.lexU_skip (by rfl) ?_; simp only [Act.put, List.setIfInBounds_toArray, List.set_cons_zero, List.set_cons_succ]) | (refine Lex.lexU_still (by rfl) (by rfl) (by first | exact Base.Ext.refl | exact Lex.Fill.refl) ?_; apply Exists.intro; refine ⟨fun W hW => ?_, ?_⟩; (have hE := Lex.ext_of_cls hW.1; have hE2 := Lex.ext_drew hE; clear hW; go_simp; try with_reducible rfl); simp only [Act.put, List.setIfInBounds_toArray, List.set_cons_zero, List.set_cons_succ]))
      refine Lex.lexU_nil (fun W hW => ?_)
      have hE := Lib.hid (Lex.ext_drew hW.1)
      obtain ⟨o', ho', hcp⟩ := (hW.2 8).2 rfl
      clear hW q4 x0 x1 x2 x3 x4 x5
      have hoC := Value.agg.inj ho'
      have HGW := Lib.hid (hE.out.at_ HG9.out)
      have hk6 : k * 6 + 6 ≤ c9 * 6 := by omega
      refine Splice.wpList_storeB 196 _ _ rfl rfl rfl g9 (k * 6) #[.int .u32 (num ob), .string (name ob), .int .i64 (plan ob).1, .int .i64 (plan ob).2.1, .int .i64 (plan ob).2.2.1, .slice A8 (pN ob) c8] rfl rfl 196 cur9 HGW.out (by kernel_rfl) (by rw [hcs9]; exact hk6) (by simp [Value.oneCell']) ?_
      intro w12 hg12 hc12
      rw [hoC] at hg12
      have hne : g3 ≠ g9 := fun e => by
        have h1 := HC.out.at3
        rw [e, HG9.out] at h1
        have h2 := Option.some.inj h1
        injection h2 with _ h3
        exact absurd h3 (by decide)
      have hset : (done ++ objs.drop k).set k o' = (done ++ [o']) ++ objs.drop (k + 1) := by rw [drop_at HOB.out, set_mid HC.out.len]
      have hput : Splice.putAt (cellsL objS (done ++ objs.drop k)) (k * 6) (objC o') = cellsL objS ((done ++ [o']) ++ objs.drop (k + 1)) := by
        rw [← hset]
        exact cellsL_put (e := objS) (i := k) (x := o') (by rw [List.length_append, HC.out.len, List.length_drop]; omega)
      have hrowW := HC.out.row.extNew hE.out
      have hown12 : Own w12 (fun i => w.heap.size ≤ i) 196 6 (.slice (some ⟨g9, 0, none⟩) objs.length c9) objs.length (cellsL objS ((done ++ [o']) ++ objs.drop (k + 1))) := by
        have := Splice.own_store (o := k * 6) hrowW HGW.out (by show k * 6 + 6 ≤ objs.length * 6; omega) hg12
        rw [← hput]
        exact this
      have hkd : ∀ i, i = g9 → i < W.heap.size → ∃ c e f, W.heap[i]? = some (.cells c e f) ∧ e ≠ 186 ∧ e ≠ 80 := fun i hi _ => by
        subst hi
        exact ⟨_, _, _, HGW.out, by decide, by decide⟩
      have HC1 : Hid (CpSt w w12 g3 sl nd nx ls objs (some ⟨g9, 0, none⟩) c9 (k + 1) (done ++ [o'])) := Lib.hid ⟨hc12.at_ (hE.out.at_ HC.out.at3) hne, hown12, by rw [List.length_append, HC.out.len]; rfl, by
          rw [take_at HOB.out, List.map_append, List.map_append, HC.out.view]
          simp [hcp.view_], fun p hp => by
          rcases List.mem_append.1 hp with hp | hp
          · exact ((HC.out.stood p hp).ext hE.out).kind hc12 hkd
          · obtain rfl : p = o' := by simpa using hp
            exact ((hcp.stood HOBK.out).from HC.out.ext.size).kind hc12 hkd, (HC.out.ext.trans hE.out).chg hc12 fun i hi => by have hi : i = g9 := hi; rw [hi]; exact hS9⟩
      clear HC HROW hg12 hc12 hne hset hput hrowW hown12 hkd hcp ho' hoC HGW HG9 hS9
      try simp only [Lex.onlyN]
      go_wp2_with fail
      try simp only [Lex.onlyN]
      go_wp2_with fail
      go_roundg (objs.length - (k + 1))
      case measure => omega
      case rel => exact ⟨k + 1, _, by omega, rfl, by first | rfl | go_num, HC1⟩
    · obtain rfl : k = objs.length := by omega
      go_wp2_with fail
      go_ret
      have hd : objs.drop objs.length = [] := List.drop_length
      have hrow := HC.out.row
      rw [hd, List.append_nil] at hrow
      subst hg3
      exact ⟨⟨nx, ls, A9, objs.length, c9, done⟩, rfl, HC.out.ext, ⟨HC.out.at3, new_objs3 HC.out.at3 hrow HC.out.len fun x hx => (HC.out.stood x hx).ok3 HC.out.at3⟩, rfl, rfl, rfl, by
        have := HC.out.view
        rw [List.take_length] at this
        exact this⟩
end Go.Proofs.Ytipmkddcdnbihaa.Tbl
/- A book: its table and its diary; what a copy of its table is; Write, walked. -/
namespace Go.Proofs.Ytipmkddcdnbihaa.Bk
open Go.RowKit Base Step Vec Shape Erase Tbl
open Diary (Or2)
open DiaryP (records frame)
theorem code_eq {sl nd : Nat} {t r : Tb} {o : Tbl.Op} (h : Tbl.Both t r) : applyC sl nd t o = rApplyC sl nd r o := by
  unfold applyC rApplyC
  by_cases h1 : o.kind = 1
  · rw [if_pos h1, if_pos h1, h.eqv.nx]
  rw [if_neg h1, if_neg h1]
  by_cases h2 : o.kind = 2
  · rw [if_pos h2, if_pos h2]
    have := commitC_eq (sl := sl) (nd := nd) (o := o) (A := o.A) (c := o.cap) (l := o.rows) h rfl
    exact this
  rw [if_neg h2, if_neg h2]
  by_cases h3 : o.kind = 3
  · rw [if_pos h3, if_pos h3]
    unfold removeC rRemoveC
    rw [← h.eqv.name]
    rcases there_name h.sorted o.name with ⟨k1, k2⟩ | ⟨k1, k2, _⟩
    · rw [k1, k2]; rfl
    · rw [k1, k2, if_pos rfl, if_neg (by omega)]
  rw [if_neg h3, if_neg h3]
  by_cases h4 : o.kind = 4
  · rw [if_pos h4, if_pos h4]
    exact moveC_eq h
  · rw [if_neg h4, if_neg h4]
theorem tb_objs {w : World} {gt sl nd : Nat} {t : Tb} (h : TbAt w gt sl nd t) : t.objs.length = t.n ∧ (∀ ob ∈ t.objs, (rows ob).length = pN ob) ∧ ∀ ob ∈ t.objs, ∀ r ∈ rows ob, (rP r).length = rN r := by
  have hk := Sh.ok_off h.ok
  refine ⟨(sl_len hk).1, fun ob hob => ?_, objs_rows hk⟩
  obtain ⟨i, hi, hix⟩ := List.getElem_of_mem hob
  exact (sl_len (obj_ok (sl_each hk (i := i) (by rw [List.getElem?_eq_getElem hi, hix]))).2.2.2).1
/-- What is known of a table is known of its copy. -/
theorem good_copy {sl nd g g' : Nat} {t t' r : Tb} {W W' : World} (h : Tbl.Good sl nd t r) (hT : TbAt W g sl nd t) (hT' : TbAt W' g' sl nd t') (hx : t'.nx = t.nx) (hl : t'.ls = t.ls) (hv : t'.objs.map view = t.objs.map view) : Tbl.Good sl nd t' r := by
  obtain ⟨a1, a2, a3⟩ := tb_objs hT
  obtain ⟨b1, b2, b3⟩ := tb_objs hT'
  have hat : ∀ o' ∈ t'.objs, ∃ o ∈ t.objs, view o = view o' := fun o' ho' => by
    obtain ⟨i, hi, hix⟩ := List.getElem_of_mem ho'
    obtain ⟨o, ho, he⟩ := view_at hv (i := i) (a := o') (by rw [List.getElem?_eq_getElem hi, hix])
    exact ⟨o, List.mem_of_getElem? ho, he.symm⟩
  have hft : ∀ o' ∈ t'.objs, FineO nd sl o' := fun o' ho' => by
    obtain ⟨o, ho, he⟩ := hat o' ho'
    exact fine_view (h.ft o ho) he (b2 o' ho') (a3 o ho) (b3 o' ho')
  have hnum : t'.objs.map num = t.objs.map num := by
    have e : ∀ l : List Tbl.Obj, l.map num = (l.map view).map (·.1) := fun l => by rw [List.map_map]; rfl
    rw [e, e, hv]
  have hlen : t'.objs.length = t.objs.length := by have := congrArg List.length hv; simpa using this
  refine ⟨⟨⟨hx.trans h.both.eqv.nx, hl.trans h.both.eqv.ls, hv.trans h.both.eqv.objs⟩, sorted_view hv.symm h.both.sorted, b1, h.both.rn, b2, h.both.rp⟩, ?_, hft, h.fr, by rw [hl]; exact h.l0, by rw [hl]; exact h.l1⟩
  refine ⟨by rw [hlen]; exact h.inv.few, by rw [hx]; exact h.inv.x0, by rw [hx]; exact h.inv.x1, fun o' ho' => ?_, by rw [hnum]; exact h.inv.apart, fun g hg => (by cases hg)⟩
  obtain ⟨o, ho, he⟩ := hat o' ho'
  obtain ⟨c1, c2, c3⟩ := h.inv.each o ho
  refine ⟨by rw [← view_num he, hl]; exact c1, by rw [← rows_len he]; exact c2, fun r' hr' => ⟨((hft o' ho').each r' hr').1, ?_⟩⟩
  have hm : rP r' ∈ (rows o).map rP := by rw [view_rows he]; exact List.mem_map_of_mem hr'
  obtain ⟨r0, hr0, hre⟩ := List.mem_map.1 hm
  rw [← hre]
  exact (c3 r0 hr0).2
/-- What Apply asks of a table. -/
theorem Good.asks {sl nd : Nat} {t r : Tb} (h : Tbl.Good sl nd t r) (hsl : sl ≤ 24) : t.n ≤ 1099511627776 ∧ (∀ ob ∈ t.objs, Small ob) ∧ (∀ ob ∈ t.objs, ∀ r ∈ rows ob, rN r = sl) ∧ 0 ≤ t.nx ∧ t.nx ≤ 4294967295 :=
  ⟨by rw [← h.both.tn]; have := h.inv.few; omega, fun ob hob => (h.ft ob hob).small hsl, fun ob hob r hr => ((h.ft ob hob).each r hr).1, by have := h.inv.x0; omega, h.inv.x1⟩
/-- A book: its block gk, its diary gd on the tape gp, its table gt. -/
structure BkAt (w : World) (gk gd gt gp sl nd : Nat) (t : Tb) (St Sd : Nat → Prop) (bs : List Int) (safe : Nat) (most : Int) (recs : List (List Int)) (m : Nat) : Prop where
  at_ : w.heap[gk]? = some (.cells #[.pointer (some ⟨gd, 0, none⟩), .pointer (some ⟨gt, 0, none⟩), .int .i64 sl, .int .i64 nd] 179 (0, 0))
  b : Diary.Both w St Sd gp gd bs safe most recs m
  tb : TbAt w gt sl nd t
/-- A copy of a table, somewhere behind N. -/
def cpyL (N sl nd : Nat) (t : Tb) : Lex.Loose := ⟨fun v => ∃ g, v = .pointer (some ⟨g, 0, none⟩), fun v W => ∀ g, v = .pointer (some ⟨g, 0, none⟩) → N ≤ g ∧ ∃ t', TbAt W g sl nd t' ∧ t'.nx = t.nx ∧ t'.ls = t.ls ∧ t'.objs.map view = t.objs.map view⟩
theorem cpyL_st {N sl nd : Nat} {t : Tb} : (cpyL N sl nd t).St Ext := fun _ _ _ h he g e => by
  obtain ⟨h1, t', h2, h3⟩ := h g e
  exact ⟨h1, t', h2.ext he, h3⟩
/-- An operation's bytes, in new blocks. -/
def opbL (w0 : World) (o : Tbl.Op) : Lex.Loose := ⟨fun v => ∃ A c, v = .slice A (opB o).length c, fun v W => ∀ A c, v = .slice A (opB o).length c → New w0 W 5 1 A (opB o).length c (nums .u8 (opB o))⟩
theorem opbL_st {w0 : World} {o : Tbl.Op} : (opbL w0 o).St Ext := fun _ _ _ h he A c e => (h A c e).extNew he
section
variable {w W : World} {gk gd gt gp sl nd : Nat} {t : Tb} {St Sd : Nat → Prop} {bs : List Int} {safe : Nat} {most : Int} {recs : List (List Int)} {m : Nat}
theorem BkAt.ext (h : BkAt w gk gd gt gp sl nd t St Sd bs safe most recs m) (he : Ext w W) : BkAt W gk gd gt gp sl nd t St Sd bs safe most recs m := ⟨he.at_ h.at_, h.b.ext he, h.tb.ext he⟩
theorem pl_not {g : Nat} {cs : Array Value} {T : TypeId} {f : Nat × Nat} (h : w.heap[g]? = some (.cells cs T f)) (hT : plainT T = false) : ¬ Pl w g := fun ⟨cs', T', f', h1, h2⟩ => by
  rw [h] at h1
  cases h1
  rw [hT] at h2
  cases h2
end
set_option maxRecDepth 100000 in
set_option maxHeartbeats 4000000 in
theorem write_calls (gk gd gt gp sl nd : Nat) (t r : Tb) (St Sd : Nat → Prop) (bs : List Int) (safe : Nat) (most : Int) (recs : List (List Int)) (m : Nat) (o : Tbl.Op) (w : World) (h : BkAt w gk gd gt gp sl nd t St Sd bs safe most recs m) (hg : Tbl.Good sl nd t r) (ho : OpAt w o) (hsl : sl ≤ 24) (hnd : nd ≤ 32) (hbs : bs.length ≤ 1099511627776) (hrc : recs.length ≤ 1099511627776) :
    Calls Try.prog 41 #[.pointer (some ⟨gk, 0, none⟩), opV o] w fun e w' => ∃ code, e = .returned (.int .i64 code) ∧ (applyC sl nd t o ≠ 0 → code = applyC sl nd t o ∧ Ext w w') ∧
      (applyC sl nd t o = 0 → Fit sl o ∧ ((most < (bs.length : Int) + (20 + (opB o).length : Nat) ∧ code = 20 ∧ Ext w w') ∨ ((bs.length : Int) + (20 + (opB o).length : Nat) ≤ most ∧ code = 0 ∧
        ∃ St' Sd', BkAt w' gk gd gt gp sl nd t St' Sd' (bs ++ frame ((recs.length : Int) + 1) (opB o)) safe most (recs ++ [opB o]) m ∧ Step (Or2 St Sd) (Or2 St' Sd') w w'))) := by
  obtain ⟨Q, hQ⟩ : ∃ Q : Ending → World → Prop, Q = fun e w' => ∃ code, e = .returned (.int .i64 code) ∧ (applyC sl nd t o ≠ 0 → code = applyC sl nd t o ∧ Ext w w') ∧
      (applyC sl nd t o = 0 → Fit sl o ∧ ((most < (bs.length : Int) + (20 + (opB o).length : Nat) ∧ code = 20 ∧ Ext w w') ∨ ((bs.length : Int) + (20 + (opB o).length : Nat) ≤ most ∧ code = 0 ∧
        ∃ St' Sd', BkAt w' gk gd gt gp sl nd t St' Sd' (bs ++ frame ((recs.length : Int) + 1) (opB o)) safe most (recs ++ [opB o]) m ∧ Step (Or2 St Sd) (Or2 St' Sd') w w'))) := ⟨_, rfl⟩
  have HQ := Lib.hid hQ
  rw [← hQ]
  clear hQ
  have H := Lib.hid h
  have HG := Lib.hid hg
  have HO := Lib.hid ho
  have hb1 := at_new w (.cells (opC o) 82)
  have he1 := Ext.new w (.cells (opC o) 82)
  clear h hg ho
  go_enter Try.func41, Try.ntmps41
  go_upto_region 1 with fail
  generalize w.alloc (.cells (opC o) 82) = w1 at *
  have HE1 := Lib.hid he1
  have HB1 := Lib.hid hb1
  have H1 := Lib.hid (H.out.ext he1)
  obtain ⟨bo, hbo⟩ : ∃ bo, bo = w.heap.size := ⟨_, rfl⟩
  have HBO := Lib.hid hbo
  rw [← hbo] at HB1 ⊢
  clear hb1 he1 hbo
  go_upto_region 3 with fail
  have k1 : ∀ W, Ext w1.drew W → W.cell? ⟨gk, 1, none⟩ = some (.pointer (some ⟨gt, 0, none⟩)) := fun W hW => blk_cell (i := 1) H1.out.at_ (drew_ext hW) rfl
  have hsC : (cpyL w1.heap.size sl nd t).St Ext := cpyL_st
  refine Lex.wp_region_u [0, 1, 2, 3, 4, 5] [6, 7] [(4, cpyL w1.heap.size sl nd t)] (by kernel_rfl) (by kernel_rfl) (by repeat (first | exact Lex.st_nil | refine Lex.st_cons (by first | exact Lex.nums_st | exact Lex.const_st | exact Lex.such_st | exact Lex.row_st | exact Lex.rowE_st | exact Lex.litR_st | assumption) ?_)) ?_; simp only [Lex.pick, List.getElem?_cons_succ, List.getElem?_cons_zero, List.map_cons, List.map_nil]
  clear hsC
  repeat (first | (refine Lex.lexU_skip (by rfl) ?_; simp only [Act.put, List.setIfInBounds_toArray, List.set_cons_zero, List.set_cons_succ]) | (refine Lex.lexU_still (by rfl) (by rfl) (by first | exact Base.Ext.refl | exact Lex.Fill.refl) ?_; apply Exists.intro; refine ⟨fun W hW => ?_, ?_⟩; (have hE := Lex.ext_of_cls hW.1; have hE2 := Lex.ext_drew hE; clear hW; go_simp; try with_reducible rfl); simp only [Act.put, List.setIfInBounds_toArray, List.set_cons_zero, List.set_cons_succ]))
  refine Lex.lexU_loose (by rfl) (by rfl) (fun W hW => ?_) ?_
  · have hE := Lex.ext_drew (Lex.ext_of_cls hW.1)
    clear hW
    go_simp
    refine (copy_calls gt sl nd t _ (H1.out.tb.ext hE) (Good.asks HG.out hsl).1 (Good.asks HG.out hsl).2.1).mono ?_
    rintro e w2 ⟨t', rfl, he2, ht', hx', hl', hn', hv'⟩
    exact ⟨_, rfl, ⟨_, rfl⟩, he2, fun g e => by cases e; exact ⟨hE.size, t', ht', hx', hl', hv'⟩⟩
  rintro v ⟨gc, rfl⟩
  simp only [Act.put, List.setIfInBounds_toArray, List.set_cons_zero, List.set_cons_succ]
  refine Lex.lexU_still (by rfl) (by rfl) Ext.refl ⟨opV o, fun W hW => ?_, ?_⟩
  · have hE := Lex.ext_drew (Lex.ext_of_cls hW.1)
    clear hW
    exact exec_load_row 82 (.tmp 3) rfl bo rfl 82 (opC o) (0, 0) _ (hE.at_ HB1.out) Try.underlying82 rfl (by kernel_rfl)
  simp only [Act.put, List.setIfInBounds_toArray, List.set_cons_zero, List.set_cons_succ]
  refine Lex.lexU_nil (fun W hW => ?_)
  have hE := Lib.hid (Lex.ext_drew hW.1)
  obtain ⟨hgc, t', ht', hx', hl', hv'⟩ := (hW.2 4).2 rfl _ rfl
  have HGC := Lib.hid (good_copy HG.out H1.out.tb ht' hx' hl' hv')
  have HT := Lib.hid ht'
  have HGN := Lib.hid hgc
  clear hW k1 ht' hx' hl' hv' hgc
  go_wp2_with fail
  refine (apply_calls gc sl nd t' o W HT.out (Good.asks HGC.out hsl).1 hnd (Good.asks HGC.out hsl).2.1 (Good.asks HGC.out hsl).2.2.1 (HO.out.ext (HE1.out.trans hE.out)) (Good.asks HGC.out hsl).2.2.2.1 (Good.asks HGC.out hsl).2.2.2.2).mono ?_
  rintro e w3 ⟨rfl, hc3, t3, ht3, hr3⟩
  have hcode : applyC sl nd t' o = applyC sl nd t o := by rw [code_eq HGC.out.both, code_eq HG.out.both]
  have HFIT : Hid (applyC sl nd t o = 0 → Fit sl o) := Lib.hid fun h0 => fit_of HO.out HT.out HGC.out.ft hsl hnd (hcode.trans h0) hr3
  have HE3 : Hid (Ext w1 w3) := Lib.hid (hE.out.chg hc3 fun i hi => by have hi : i = gc := hi; rw [hi]; exact HGN.out)
  rw [hcode]
  clear hcode hc3 ht3 hr3 HT HGC HGN hE
  generalize hcd : applyC sl nd t o = code at *
  have HCD := Lib.hid hcd
  clear hcd
  by_cases h0 : code = 0
  · have hne : (code != 0) = false := by simp [h0]
    have H0 := Lib.hid h0
    have H3 := Lib.hid (H1.out.ext HE3.out)
    have HB3 := Lib.hid (HE3.out.at_ HB1.out)
    have hfit := HFIT.out h0
    have HFT := Lib.hid hfit
    have hol := opB_len hfit
    clear h0 hfit
    try simp only [Lex.onlyN]
    go_wp2_with fail
    try simp only [Lex.onlyN]
    go_upto_region 6 with fail
    have k0 : ∀ W, Ext w3.drew W → W.cell? ⟨gk, 0, none⟩ = some (.pointer (some ⟨gd, 0, none⟩)) := fun W hW => blk_cell (i := 0) H3.out.at_ (drew_ext hW) rfl
    have hsC : (opbL w3 o).St Ext := opbL_st
    refine Lex.wp_region_u [0, 1, 2, 3, 4, 5] [6, 7] [(5, opbL w3 o)] (by kernel_rfl) (by kernel_rfl) (by repeat (first | exact Lex.st_nil | refine Lex.st_cons (by first | exact Lex.nums_st | exact Lex.const_st | exact Lex.such_st | exact Lex.row_st | exact Lex.rowE_st | exact Lex.litR_st | assumption) ?_)) ?_; simp only [Lex.pick, List.getElem?_cons_succ, List.getElem?_cons_zero, List.map_cons, List.map_nil]
    clear hsC
    iterate 4 (first | (refine Lex.lexU_skip (by rfl) ?_; simp only [Act.put, List.setIfInBounds_toArray, List.set_cons_zero, List.set_cons_succ]) | (refine Lex.lexU_still (by rfl) (by rfl) (by first | exact Base.Ext.refl | exact Lex.Fill.refl) ?_; apply Exists.intro; refine ⟨fun W hW => ?_, ?_⟩; (have hE := Lex.ext_of_cls hW.1; have hE2 := Lex.ext_drew hE; clear hW; go_simp; try with_reducible rfl); simp only [Act.put, List.setIfInBounds_toArray, List.set_cons_zero, List.set_cons_succ]))
    refine Lex.lexU_still (by rfl) (by rfl) Ext.refl ⟨opV o, fun W hW => ?_, ?_⟩
    · have hE := Lex.ext_drew (Lex.ext_of_cls hW.1)
      clear hW
      exact exec_load_row 82 (.tmp 3) rfl bo rfl 82 (opC o) (0, 0) _ (hE.at_ HB3.out) Try.underlying82 rfl (by kernel_rfl)
    simp only [Act.put, List.setIfInBounds_toArray, List.set_cons_zero, List.set_cons_succ]
    refine Lex.lexU_loose (by rfl) (by rfl) (fun W hW => ?_) ?_
    · have hE := Lex.ext_drew (Lex.ext_of_cls hW.1)
      clear hW
      go_simp
      refine (op_calls o sl _ (HO.out.ext ((HE1.out.trans HE3.out).trans hE)) HFT.out hsl).mono ?_
      rintro e w5 ⟨he5, A, c, rfl, ho5⟩
      exact ⟨_, rfl, ⟨_, _, rfl⟩, he5, fun A c e => by cases e; exact ho5.mono fun i _ hi => Nat.le_trans hE.size hi⟩
    rintro v ⟨A5, c5, rfl⟩
    simp only [Act.put, List.setIfInBounds_toArray, List.set_cons_zero, List.set_cons_succ]
    refine Lex.lexU_nil (fun W hW => ?_)
    have hE := Lib.hid (Lex.ext_drew hW.1)
    have HO5 := Lib.hid ((hW.2 5).2 rfl _ _ rfl)
    clear hW k0
    have H5 := Lib.hid (H3.out.ext hE.out)
    obtain ⟨S1, hS1⟩ : ∃ S1 : Nat → Prop, S1 = fun i => St i ∧ Pl W i := ⟨_, rfl⟩
    obtain ⟨S2, hS2⟩ : ∃ S2 : Nat → Prop, S2 = fun i => Sd i ∧ Pl W i := ⟨_, rfl⟩
    have hbp := both_pl H5.out.b
    rw [← hS1, ← hS2] at hbp
    have HPL : Hid (∀ i, Or2 S1 S2 i → Or2 St Sd i ∧ Pl W i) := Lib.hid fun i hi => by
      rw [hS1, hS2] at hi
      rcases hi with hi | hi
      · exact ⟨.inl hi.1, hi.2⟩
      · exact ⟨.inr hi.1, hi.2⟩
    have HBP := Lib.hid hbp
    clear hbp hS1 hS2
    have hoff : Off S1 A5 (opB o).length := fun h0 ad ha hs => by
      subst ha
      have h1 : w3.heap.size ≤ ad.block := HO5.out.foot _ rfl
      have h2 := (HPL.out _ (.inl hs)).1
      rcases h2 with h2 | h2
      · have := H3.out.b.t.lt _ h2
        omega
      · have := H3.out.b.d.lt _ h2
        omega
    have HOFF := Lib.hid hoff
    clear hoff
    by_cases hfit : (bs.length : Int) + (20 + (opB o).length : Nat) ≤ most
    · have HFI := Lib.hid hfit
      go_wp2_with fail
      refine (Diary.write_calls S1 S2 gp gd bs safe most recs m W HBP.out A5 (opB o).length c5 (opB o) (HO5.out.rd (opB_wf o)) HOFF.out (by omega) hbs hrc HFI.out).mono ?_
      rintro e w6 ⟨rfl, St6, Sd6, hb6, hs6⟩
      have hk6 := hs6.chg.at_ H5.out.at_ fun k => pl_not H5.out.at_ (by decide) (HPL.out _ k).2
      have ht6 := tb_pl H5.out.tb hs6.chg fun i hi => (HPL.out i hi).2
      have HR : Hid (BkAt w6 gk gd gt gp sl nd t St6 Sd6 (bs ++ frame ((recs.length : Int) + 1) (opB o)) safe most (recs ++ [opB o]) m ∧ Step (Or2 St Sd) (Or2 St6 Sd6) w w6) := Lib.hid ⟨⟨hk6, hb6, ht6⟩, (HE1.out.trans (HE3.out.trans hE.out)).size |> fun hsz => ⟨Chg.trans (Below.chg (HE1.out.trans (HE3.out.trans hE.out))) (hs6.chg.mono fun i _ hi => (HPL.out i hi).1), fun i hi => (hs6.grow i hi).imp (fun k => (HPL.out i k).1) fun k => Nat.le_trans hsz k⟩⟩
      clear hb6 hs6 hk6 ht6
      try simp only [Lex.onlyN]
      go_wp2_with fail
      try simp only [Lex.onlyN]
      go_wp2_with fail
      rw [HQ.out]
      exact ⟨0, rfl, fun k => absurd H0.out k, fun _ => ⟨HFT.out, .inr ⟨HFI.out, rfl, St6, Sd6, HR.out.1, HR.out.2⟩⟩⟩
    · have HFI : Hid (most < (bs.length : Int) + (20 + (opB o).length : Nat)) := Lib.hid (by omega)
      clear hfit
      go_wp2_with fail
      refine (Diary.write_full S1 S2 gp gd bs safe most recs m W HBP.out A5 (opB o).length c5 (opB o) (HO5.out.rd (opB_wf o)) (by omega) hrc HFI.out).mono ?_
      rintro e w6 ⟨rfl, he6⟩
      have HE6 := Lib.hid (((HE1.out.trans HE3.out).trans hE.out).trans he6)
      clear he6
      try simp only [Lex.onlyN]
      go_wp2_with fail
      try simp only [Lex.onlyN]
      go_wp2_with fail
      rw [HQ.out]
      exact ⟨20, rfl, fun k => absurd H0.out k, fun _ => ⟨HFT.out, .inl ⟨HFI.out, rfl, HE6.out⟩⟩⟩
  · have hne : (code != 0) = true := by simp [h0]
    have H0 := Lib.hid h0
    clear h0
    try simp only [Lex.onlyN]
    go_wp2_with fail
    try simp only [Lex.onlyN]
    go_wp2_with fail
    rw [HQ.out]
    exact ⟨code, rfl, fun _ => ⟨rfl, HE1.out.trans HE3.out⟩, fun k => absurd k H0.out⟩
end Go.Proofs.Ytipmkddcdnbihaa.Bk
/- A book: Do, Len, Table, Open; walked. -/
namespace Go.Proofs.Ytipmkddcdnbihaa.Bk
open Go.RowKit Base Step Vec Shape Erase Tbl
open Diary (Or2)
open DiaryP (records frame)
set_option maxRecDepth 100000 in
set_option maxHeartbeats 4000000 in
theorem do_calls (gk gd gt gp sl nd : Nat) (t r : Tb) (St Sd : Nat → Prop) (bs : List Int) (safe : Nat) (most : Int) (recs : List (List Int)) (m : Nat) (o : Tbl.Op) (w : World) (h : BkAt w gk gd gt gp sl nd t St Sd bs safe most recs m) (hg : Tbl.Good sl nd t r) (ho : OpAt w o) (hsl : sl ≤ 24) (hnd : nd ≤ 32) (hbs : bs.length ≤ 1099511627776) (hrc : recs.length ≤ 1099511627776) (hpl : ∀ i, Or2 St Sd i → Pl w i) (hor : (Sh.sl rowS).ok (erase w gt) (o.A, o.n, o.cap, o.rows)) :
    Calls Try.prog 42 #[.pointer (some ⟨gk, 0, none⟩), opV o] w fun e w' => ∃ code, e = .returned (.int .i64 code) ∧ (applyC sl nd t o ≠ 0 → code = applyC sl nd t o ∧ Ext w w') ∧
      (applyC sl nd t o = 0 → Fit sl o ∧ ((most < (bs.length : Int) + (20 + (opB o).length : Nat) ∧ code = 20 ∧ Ext w w') ∨ ((bs.length : Int) + (20 + (opB o).length : Nat) ≤ most ∧ code = 0 ∧
        ∃ St' Sd' t' w0, BkAt w' gk gd gt gp sl nd t' St' Sd' (bs ++ frame ((recs.length : Int) + 1) (opB o)) (bs ++ frame ((recs.length : Int) + 1) (opB o)).length most (recs ++ [opB o]) (recs ++ [opB o]).length ∧ ApplyR sl nd t o w0 t' ∧
          Chg (fun i => Or2 St Sd i ∨ i = gt) w w' ∧ ∀ i, Or2 St' Sd' i → Or2 St Sd i ∨ w.heap.size ≤ i))) := by
  obtain ⟨Q, hQ⟩ : ∃ Q : Ending → World → Prop, Q = fun e w' => ∃ code, e = .returned (.int .i64 code) ∧ (applyC sl nd t o ≠ 0 → code = applyC sl nd t o ∧ Ext w w') ∧
      (applyC sl nd t o = 0 → Fit sl o ∧ ((most < (bs.length : Int) + (20 + (opB o).length : Nat) ∧ code = 20 ∧ Ext w w') ∨ ((bs.length : Int) + (20 + (opB o).length : Nat) ≤ most ∧ code = 0 ∧
        ∃ St' Sd' t' w0, BkAt w' gk gd gt gp sl nd t' St' Sd' (bs ++ frame ((recs.length : Int) + 1) (opB o)) (bs ++ frame ((recs.length : Int) + 1) (opB o)).length most (recs ++ [opB o]) (recs ++ [opB o]).length ∧ ApplyR sl nd t o w0 t' ∧
          Chg (fun i => Or2 St Sd i ∨ i = gt) w w' ∧ ∀ i, Or2 St' Sd' i → Or2 St Sd i ∨ w.heap.size ≤ i))) := ⟨_, rfl⟩
  have HQ := Lib.hid hQ
  rw [← hQ]
  clear hQ
  have H := Lib.hid h
  have HG := Lib.hid hg
  have HO := Lib.hid ho
  have HPW := Lib.hid hpl
  have HOR := Lib.hid hor
  have hb1 := at_new w (.cells (opC o) 82)
  have he1 := Ext.new w (.cells (opC o) 82)
  clear h hg ho hpl hor
  go_enter Try.func42, Try.ntmps42
  go_upto_region 1 with fail
  generalize w.alloc (.cells (opC o) 82) = w1 at *
  have HE1 := Lib.hid he1
  have HB1 := Lib.hid hb1
  have H1 := Lib.hid (H.out.ext he1)
  obtain ⟨bo, hbo⟩ : ∃ bo, bo = w.heap.size := ⟨_, rfl⟩
  have HBO := Lib.hid hbo
  rw [← hbo] at HB1 ⊢
  clear hb1 he1 hbo
  go_wp2_with (refine wpList_load_rowG rfl 82 _ rfl bo rfl 82 (opC o) (0, 0) _ HB1.out Try.underlying82 rfl (by kernel_rfl) ?_)
  refine (write_calls gk gd gt gp sl nd t r St Sd bs safe most recs m o w1 H1.out HG.out (HO.out.ext HE1.out) hsl hnd hbs hrc).mono ?_
  rintro e w2 ⟨code, rfl, hno, hyes⟩
  by_cases hcd : applyC sl nd t o = 0
  · obtain ⟨hfit, hyes⟩ := hyes hcd
    have HFT := Lib.hid hfit
    have HCD := Lib.hid hcd
    rcases hyes with ⟨hfull, rfl, he2⟩ | ⟨hroom, rfl, St2, Sd2, hb2, hs2⟩
    · have HE := Lib.hid (HE1.out.trans he2)
      have HFU := Lib.hid hfull
      clear hno he2 hfull hfit hcd
      go_wp2_with fail
      rw [HQ.out]
      exact ⟨20, rfl, fun k => absurd HCD.out k, fun _ => ⟨HFT.out, .inl ⟨HFU.out, rfl, HE.out⟩⟩⟩
    · have HB2 := Lib.hid hb2
      have HS2 := Lib.hid hs2
      have HRO := Lib.hid hroom
      have HOB : Hid (w2.heap[bo]? = some (.cells (opC o) 82 (0, 0))) := Lib.hid (hs2.chg.at_ HB1.out fun k => by
        rcases k with k | k
        · have := H.out.b.t.lt _ k
          have := HBO.out
          omega
        · have := H.out.b.d.lt _ k
          have := HBO.out
          omega)
      have hk0 : w2.cell? ⟨gk, 0, none⟩ = some (.pointer (some ⟨gd, 0, none⟩)) := blk_cell (i := 0) hb2.at_ (Ext.refl _) rfl
      clear hno hb2 hs2 hroom hfit hcd
      obtain ⟨S1, hS1⟩ : ∃ S1 : Nat → Prop, S1 = fun i => St2 i ∧ Pl w2 i := ⟨_, rfl⟩
      obtain ⟨S2, hS2⟩ : ∃ S2 : Nat → Prop, S2 = fun i => Sd2 i ∧ Pl w2 i := ⟨_, rfl⟩
      have hbp := both_pl HB2.out.b
      rw [← hS1, ← hS2] at hbp
      have HPL : Hid (∀ i, Or2 S1 S2 i → Or2 St2 Sd2 i ∧ Pl w2 i) := Lib.hid fun i hi => by
        rw [hS1, hS2] at hi
        rcases hi with hi | hi
        · exact ⟨.inl hi.1, hi.2⟩
        · exact ⟨.inr hi.1, hi.2⟩
      have HBP := Lib.hid hbp
      clear hbp hS1 hS2
      go_wp2_with fail
      refine (Diary.sync_calls S1 S2 gp gd _ safe most _ m w2 HBP.out).mono ?_
      rintro e w3 ⟨rfl, hb3, hc3⟩
      have hk3 := hc3.at_ HB2.out.at_ fun k => pl_not HB2.out.at_ (by decide) (HPL.out _ k).2
      have ht3 := tb_pl HB2.out.tb hc3 fun i hi => (HPL.out i hi).2
      have HB3 := Lib.hid hb3
      have HK3 := Lib.hid hk3
      have HT3 := Lib.hid ht3
      have HOB3 := Lib.hid (hc3.at_ HOB.out fun k => pl_not HOB.out (by decide) (HPL.out _ k).2)
      have HOR3 : Hid ((Sh.sl rowS).ok (erase w3 gt) (o.A, o.n, o.cap, o.rows)) := Lib.hid (by
        have h1 := Sh.ok_ext (erase_ext HE1.out) _ _ HOR.out
        have h2 := Sh.ok_plain h1 HS2.out.chg fun i hi => by
          obtain ⟨cs, T, f, k1, k2⟩ := HPW.out i hi
          exact ⟨cs, T, f, HE1.out.at_ k1, k2⟩
        exact Sh.ok_plain h2 hc3 fun i hi => (HPL.out i hi).2)
      have HC3 := Lib.hid (hc3.mono (S' := Or2 St2 Sd2) fun i _ hi => (HPL.out i hi).1)
      have hs3 : w2.heap.size ≤ w3.heap.size := hc3.size
      have HNT : Hid (¬ Or2 S1 S2 gt) := Lib.hid fun k => pl_not HB2.out.tb.at_ (by decide) (HPL.out _ k).2
      have HNK : Hid (gk ≠ gt) := Lib.hid fun e => by
        have h1 := HB2.out.at_
        rw [e, HB2.out.tb.at_] at h1
        have h2 := Option.some.inj h1
        injection h2 with _ h3
        exact absurd h3 (by decide)
      clear hk0 hb3 hc3 hk3 ht3 HBP HB2 HOB
      go_wp2_with fail
      go_upto_region 7 with fail
      have k1 : ∀ W, Ext w3.drew W → W.cell? ⟨gk, 1, none⟩ = some (.pointer (some ⟨gt, 0, none⟩)) := fun W hW => blk_cell (i := 1) HK3.out (drew_ext hW) rfl
      refine Lex.wp_region_u [0, 1, 2, 3, 4] [5, 6] [] (by kernel_rfl) (by kernel_rfl) (by repeat (first | exact Lex.st_nil | refine Lex.st_cons (by first | exact Lex.nums_st | exact Lex.const_st | exact Lex.such_st | exact Lex.row_st | exact Lex.rowE_st | exact Lex.litR_st | assumption) ?_)) ?_; simp only [Lex.pick, List.getElem?_cons_succ, List.getElem?_cons_zero, List.map_cons, List.map_nil]
      iterate 4 (first | (refine Lex.lexU_skip (by rfl) ?_; simp only [Act.put, List.setIfInBounds_toArray, List.set_cons_zero, List.set_cons_succ]) | (refine Lex.lexU_still (by rfl) (by rfl) (by first | exact Base.Ext.refl | exact Lex.Fill.refl) ?_; apply Exists.intro; refine ⟨fun W hW => ?_, ?_⟩; (have hE := Lex.ext_of_cls hW.1; have hE2 := Lex.ext_drew hE; clear hW; go_simp; try with_reducible rfl); simp only [Act.put, List.setIfInBounds_toArray, List.set_cons_zero, List.set_cons_succ]))
      refine Lex.lexU_still (by rfl) (by rfl) Ext.refl ⟨opV o, fun W hW => ?_, ?_⟩
      · have hE := Lex.ext_drew (Lex.ext_of_cls hW.1)
        clear hW
        exact exec_load_row 82 (.tmp 3) rfl bo rfl 82 (opC o) (0, 0) _ (hE.at_ HOB3.out) Try.underlying82 rfl (by kernel_rfl)
      simp only [Act.put, List.setIfInBounds_toArray, List.set_cons_zero, List.set_cons_succ]
      refine Lex.lexU_nil (fun W hW => ?_)
      have hE := Lib.hid (Lex.ext_drew hW.1)
      clear hW k1
      have hE0 : Chg (Or2 St Sd) w W := by
        have h1 : Chg (Or2 St Sd) w w1 := Below.chg HE1.out
        have h2 : Chg (Or2 St Sd) w w2 := h1.trans HS2.out.chg
        have h3 : Chg (Or2 St Sd) w w3 := h2.step HC3.out fun i hi k => by
          rcases HS2.out.grow i k with k | k
          · exact k
          · have := HE1.out.size
            omega
        exact chg_ext h3 hE.out
      have HE0 := Lib.hid hE0
      have HOW : Hid (OpAt W o) := Lib.hid ⟨HO.out.num, HO.out.name, HO.out.l, HO.out.c, HO.out.p, Sh.ok_off (Sh.ok_ext (erase_ext hE.out) _ _ HOR3.out), HO.out.few, HO.out.each, HO.out.gen, HO.out.node⟩
      go_wp2_with fail
      refine (apply_calls gt sl nd t o W (HT3.out.ext hE.out) (Good.asks HG.out hsl).1 hnd (Good.asks HG.out hsl).2.1 (Good.asks HG.out hsl).2.2.1 HOW.out (Good.asks HG.out hsl).2.2.2.1 (Good.asks HG.out hsl).2.2.2.2).mono ?_
      rintro e w5 ⟨rfl, hc5, t5, ht5, hr5⟩
      rw [HCD.out]
      have HR : Hid (BkAt w5 gk gd gt gp sl nd t5 S1 S2 (bs ++ frame ((recs.length : Int) + 1) (opB o)) (bs ++ frame ((recs.length : Int) + 1) (opB o)).length most (recs ++ [opB o]) (recs ++ [opB o]).length) :=
        Lib.hid ⟨hc5.at_ (hE.out.at_ HK3.out) HNK.out, ⟨(HB3.out.ext hE.out).t.chg hc5 fun i hi k => by have k : i = gt := k; rw [k] at hi; exact HNT.out (.inl hi), (HB3.out.ext hE.out).d.chg hc5 fun i hi k => by have k : i = gt := k; rw [k] at hi; exact HNT.out (.inr hi), (HB3.out.ext hE.out).sep⟩, ht5⟩
      have HR5 := Lib.hid hr5
      have HC5 : Hid (Chg (fun i => Or2 St Sd i ∨ i = gt) w w5) := Lib.hid (((hE0.mono fun i _ k => .inl k).trans (hc5.mono fun i _ k => .inr k)))
      have HGR : Hid (∀ i, Or2 S1 S2 i → Or2 St Sd i ∨ w.heap.size ≤ i) := Lib.hid fun i hi => (HS2.out.grow i (HPL.out i hi).1).imp id fun k => Nat.le_trans HE1.out.size k
      clear hc5 ht5 hr5 hE0
      try simp only [Lex.onlyN]
      go_wp2_with fail
      try simp only [Lex.onlyN]
      go_wp2_with fail
      rw [HQ.out]
      exact ⟨0, rfl, fun k => absurd HCD.out k, fun _ => ⟨HFT.out, .inr ⟨HRO.out, rfl, S1, S2, t5, _, HR.out, HR5.out, HC5.out, HGR.out⟩⟩⟩
  · obtain ⟨rfl, he2⟩ := hno hcd
    have HE := Lib.hid (HE1.out.trans he2)
    have HCD := Lib.hid hcd
    have hne : (applyC sl nd t o != 0) = true := by simp [hcd]
    clear hyes he2 hcd
    go_wp2_with fail
    rw [HQ.out]
    exact ⟨_, rfl, fun _ => ⟨rfl, HE.out⟩, fun k => absurd k HCD.out⟩
set_option maxRecDepth 100000 in
theorem len_calls (gk gd gt gp sl nd : Nat) (t : Tb) (St Sd : Nat → Prop) (bs : List Int) (safe : Nat) (most : Int) (recs : List (List Int)) (m : Nat) (w : World) (h : BkAt w gk gd gt gp sl nd t St Sd bs safe most recs m) :
    Calls Try.prog 40 #[.pointer (some ⟨gk, 0, none⟩)] w fun e w' => e = .returned (.int .i64 recs.length) ∧ Ext w w' := by
  have H := Lib.hid h
  have k0 : w.cell? ⟨gk, 0, none⟩ = some (.pointer (some ⟨gd, 0, none⟩)) := blk_cell (i := 0) h.at_ (Ext.refl _) rfl
  clear h
  go_enter Try.func40, Try.ntmps40
  go_wp2_with fail
  refine (Diary.len_calls Sd gd gp recs m w H.out.b.d).mono ?_
  rintro e w1 ⟨rfl, he⟩
  have HE := Lib.hid he
  clear he k0
  go_wp2_with fail
  go_ret
  exact ⟨rfl, HE.out⟩
set_option maxRecDepth 100000 in
theorem table_calls (gk gd gt gp sl nd : Nat) (t : Tb) (St Sd : Nat → Prop) (bs : List Int) (safe : Nat) (most : Int) (recs : List (List Int)) (m : Nat) (w : World) (h : BkAt w gk gd gt gp sl nd t St Sd bs safe most recs m) :
    Calls Try.prog 39 #[.pointer (some ⟨gk, 0, none⟩)] w fun e w' => e = .returned (.pointer (some ⟨gt, 0, none⟩)) ∧ Ext w w' := by
  have k0 : w.cell? ⟨gk, 1, none⟩ = some (.pointer (some ⟨gt, 0, none⟩)) := blk_cell (i := 1) h.at_ (Ext.refl _) rfl
  clear h
  go_enter Try.func39, Try.ntmps39
  go_wp2_with fail
  go_ret
  exact ⟨rfl, Ext.refl _⟩
set_option maxRecDepth 100000 in
set_option maxHeartbeats 8000000 in
theorem open_calls (gp sl nd : Nat) (S : Nat → Prop) (bs : List Int) (safe : Nat) (most : Int) (os : List Tbl.Op) (f : Nat → Tb) (w : World) (h : Tape.Tape w S gp bs safe most) (hx : bs.length ≤ 1099511627776) (hh : Hist sl nd os f) (hno : ∀ o ∈ os, norm o = o) (hrec : (records bs).1 = os.map opB) (hos : os.length ≤ 1099511627776) (h1 : 1 ≤ sl) (h2 : sl ≤ 24) (h3 : 1 ≤ nd) (h4 : nd ≤ 32) :
    Calls Try.prog 37 #[.pointer (some ⟨gp, 0, none⟩), .int .i64 sl, .int .i64 nd] w fun e w' => ∃ (gk gd gt : Nat) (t : Tb) (St Sd : Nat → Prop), e = .returned (.tuple #[.pointer (some ⟨gk, 0, none⟩), .int .i64 0]) ∧
      BkAt w' gk gd gt gp sl nd t St Sd (bs.take (records bs).2.toNat) (records bs).2.toNat most (os.map opB) os.length ∧ Tbl.Good sl nd t (f os.length) ∧ Chg S w w' ∧ (∀ i, St i → S i ∨ w.heap.size ≤ i) ∧ (∀ i, Sd i → w.heap.size ≤ i) ∧ w.heap.size ≤ gt ∧ w.heap.size ≤ gk := by
  have HH := Lib.hid hh
  have HNO := Lib.hid hno
  have HREC := Lib.hid hrec
  have H := Lib.hid h
  have hlt := h.lt
  have HLT := Lib.hid hlt
  clear hh hno hrec h hlt
  go_enter Try.func37, Try.ntmps37
  go_wp2_with fail
  refine (Tbl.new_calls sl nd w h1 h2 h3 h4).mono ?_
  rintro e w1 ⟨rfl, he1, ht1⟩
  have HE1 := Lib.hid he1
  have HT1 := Lib.hid (show TbAt w1 w.heap.size sl nd ⟨1, 0, none, 0, 0, []⟩ from ht1)
  clear he1 ht1
  obtain ⟨gt, hgt⟩ : ∃ gt, gt = w.heap.size := ⟨_, rfl⟩
  rw [← hgt] at HT1 ⊢
  have HGT := Lib.hid hgt
  clear hgt
  go_wp2_with fail
  refine (Diary.open_calls (fun i => S i ∧ Pl w1 i) gp bs safe most w1 (tape_pl (H.out.ext HE1.out)) hx).mono ?_
  rintro e w2 ⟨gd, St, Sd, rfl, hb2, hc2, hg2, hn2⟩
  have ht2 := tb_pl HT1.out hc2 fun i hi => hi.2
  have HT2 := Lib.hid ht2
  have HB2 : Hid (Diary.Both w2 St Sd gp gd (bs.take (records bs).2.toNat) (records bs).2.toNat most (os.map opB) os.length) := Lib.hid (by
    have := hb2
    rw [HREC.out, List.length_map] at this
    exact this)
  have HC2 : Hid (Chg S w w2) := Lib.hid (Chg.trans (Below.chg HE1.out) (hc2.mono fun i _ hi => hi.1))
  have hs1 : gt < w1.heap.size := HT1.out.lt
  have HGT1 : Hid (w.heap.size ≤ gt ∧ ∀ i, S i → i < gt) := Lib.hid ⟨Nat.le_of_eq HGT.out.symm, fun i hi => by rw [HGT.out]; exact HLT.out i hi⟩
  have HSS : Hid ((∀ i, St i → S i ∨ w1.heap.size ≤ i) ∧ ∀ i, Sd i → w1.heap.size ≤ i) := Lib.hid ⟨fun i hi => (hg2 i hi).imp (fun k => k.1) id, hn2⟩
  have HNT : Hid ((∀ i, St i → ¬ i = gt) ∧ ∀ i, Sd i → ¬ i = gt) := Lib.hid ⟨fun i hi e => by
    rcases HSS.out.1 i hi with k | k
    · have := HGT1.out.2 i k
      omega
    · omega, fun i hi e => by have := HSS.out.2 i hi; omega⟩
  have hw12 : w.heap.size ≤ w1.heap.size := HE1.out.size
  clear ht2 hb2 hc2 hg2 hn2 HGT
  have hol : (os.map opB).length = os.length := List.length_map ..
  have HOL := Lib.hid hol
  clear hol
  go_wp2_with fail
  refine (Diary.len_calls Sd gd gp (os.map opB) os.length w2 HB2.out.d).mono ?_
  rintro e w3 ⟨rfl, he3⟩
  rw [HOL.out]
  have HE3 := Lib.hid he3
  have HG0 : Hid (Tbl.Good sl nd ⟨1, 0, none, 0, 0, []⟩ (f 0)) := Lib.hid (by rw [HH.out.zero]; exact good_new sl nd)
  have HT3 := Lib.hid (HT2.out.ext he3)
  have HB3 := Lib.hid (HB2.out.ext he3)
  have HC3 := Lib.hid (chg_ext HC2.out he3)
  clear he3
  go_upto_region 9 with fail
  go_loopg [13] os.length (fun q i wr => ∃ (k : Nat) (t : Tb), k ≤ os.length ∧ q = os.length - k ∧ i = .int .i64 ((k : Int) + 1) ∧ Hid (TbAt wr gt sl nd t) ∧ Hid (Tbl.Good sl nd t (f k)) ∧ Hid (Diary.Both wr St Sd gp gd (bs.take (records bs).2.toNat) (records bs).2.toNat most (os.map opB) os.length) ∧ Hid (Chg S w wr))
  case atStart => exact ⟨0, ⟨1, 0, none, 0, 0, []⟩, Nat.zero_le _, rfl, by simp, HT3, HG0, HB3, HC3⟩
  case round =>
    clear HT3 HG0 HB3 HC3 HE3
    obtain ⟨k, t, hk, rfl, rfl, HT, HG, HB, HC⟩ := hrel
    by_cases hlt : k < os.length
    · obtain ⟨o, ho⟩ : ∃ o, os[k]? = some o := ⟨_, List.getElem?_eq_getElem hlt⟩
      have hrk : (os.map opB)[k]? = some (opB o) := by rw [List.getElem?_map, ho]; rfl
      obtain ⟨_, _, hfit, _, _⟩ := HH.out.step k o ho
      have hnorm := HNO.out o (List.mem_of_getElem? ho)
      have hol := opB_len hfit
      have HFT := Lib.hid hfit
      have HN := Lib.hid hnorm
      have HO := Lib.hid ho
      have hle : (k : Int) + 1 ≤ os.length := by omega
      clear hfit hnorm ho
      go_wp2_with fail
      refine (Diary.get_calls Sd gd gp (os.map opB) os.length wr HB.out.d k (opB o) hrk (by omega)).mono ?_
      rintro e w4 ⟨he4, A4, c4, rfl, ho4, hwf4⟩
      have HE4 := Lib.hid he4
      have HRD := Lib.hid (ho4.rd hwf4)
      have HCAP := Lib.hid ho4.cap
      clear he4 ho4 hwf4 hrk
      go_wp2_with fail
      refine (parse_calls o sl A4 (opB o).length c4 w4 HRD.out HCAP.out.1 HCAP.out.2 HFT.out h2).mono ?_
      rintro e w5 ⟨o', rfl, he5, hl5, ha5⟩
      rw [HN.out] at hl5
      have HL5 := Lib.hid hl5
      have HA5 := Lib.hid ha5
      have HE5 := Lib.hid (HE4.out.trans he5)
      clear he5 hl5 ha5
      go_upto_region 13 with (refine RowSt.wpList_put 82 _ _ rfl rfl rfl w5.heap.size (opC o') rfl rfl 82 _ (at_new w5 _) (by kernel_rfl) rfl (by simp [Value.oneCell']) ?_; intro w6 hb6 hc6)
      have hE6 : Ext w5 w6 := (Ext.new w5 _).chg hc6 fun i hi => by have hi : i = w5.heap.size := hi; omega
      have HE6 := Lib.hid (HE5.out.trans hE6)
      have HB6 := Lib.hid hb6
      have HA6 := Lib.hid (HA5.out.ext hE6)
      generalize w5.heap.size = bo at *
      clear hb6 hc6 hE6
      go_wp2_with (refine wpList_load_rowG rfl 82 _ rfl bo rfl 82 (opC o') (0, 0) _ HB6.out Try.underlying82 rfl (by kernel_rfl) ?_)
      refine (apply_calls gt sl nd t o' w6 (HT.out.ext HE6.out) (Good.asks HG.out h2).1 h4 (Good.asks HG.out h2).2.1 (Good.asks HG.out h2).2.2.1 HA6.out (Good.asks HG.out h2).2.2.2.1 (Good.asks HG.out h2).2.2.2.2).mono ?_
      rintro e w7 ⟨rfl, hc7, t7, ht7, hr7⟩
      obtain ⟨hz, hg7⟩ := redo HH.out HO.out HG.out HL5.out HA6.out hr7 ht7
      rw [hz]
      have HT7 := Lib.hid ht7
      have HG7 := Lib.hid hg7
      have HB7 : Hid (Diary.Both w7 St Sd gp gd (bs.take (records bs).2.toNat) (records bs).2.toNat most (os.map opB) os.length) := Lib.hid ⟨(HB.out.ext HE6.out).t.chg hc7 fun i hi k => HNT.out.1 i hi k, (HB.out.ext HE6.out).d.chg hc7 fun i hi k => HNT.out.2 i hi k, HB.out.sep⟩
      have HC7 : Hid (Chg S w w7) := Lib.hid ((chg_ext HC.out HE6.out).step hc7 fun i hi k => by have k : i = gt := k; have := HGT1.out.1; omega)
      clear hz hg7 hc7 ht7 hr7
      go_wp2_with fail
      go_roundg (os.length - (k + 1))
      case measure => omega
      case rel => exact ⟨k + 1, t7, by omega, rfl, by first | rfl | go_num, HT7, HG7, HB7, HC7⟩
    · obtain rfl : k = os.length := by omega
      have hle : ¬ (os.length : Int) + 1 ≤ os.length := by omega
      go_wp2_with fail
      go_ret2
      have hE := Ext.new wr (.cells #[.pointer (some ⟨gd, 0, none⟩), .pointer (some ⟨gt, 0, none⟩), .int .i64 sl, .int .i64 nd] 179)
      exact ⟨wr.heap.size, rfl, gd, gt, t, St, Sd, ⟨at_new _ _, HB.out.ext hE, HT.out.ext hE⟩, HG.out, chg_ext HC.out hE, fun i hi => (HSS.out.1 i hi).imp id fun k => Nat.le_trans hw12 k, fun i hi => Nat.le_trans hw12 (HSS.out.2 i hi), HGT1.out.1, HC.out.size⟩
end Go.Proofs.Ytipmkddcdnbihaa.Bk
