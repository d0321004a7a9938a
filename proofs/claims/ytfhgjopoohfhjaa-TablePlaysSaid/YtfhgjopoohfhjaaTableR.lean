/- What keeps behind every operation on a table: numbers apart, and what is gone is not there. -/
import Derived.Test.YtfhgjopoohfhjaaTableQ
namespace Go.Proofs.Ytfhgjopoohfhjaa.Tbl
open Go.RowKit Base Step Vec Shape Erase
/-- A table of which every number is one object's, and none of those that are gone. -/
structure Inv (sl : Nat) (gone : List Int) (t : Tb) : Prop where
  few : t.objs.length ≤ 64
  x0 : 1 ≤ t.nx
  x1 : t.nx ≤ 4294967295
  each : ∀ o ∈ t.objs, num o ≤ t.ls ∧ (rows o).length ≤ 32 ∧ ∀ r ∈ rows o, rN r = sl ∧ ((rP r).map node).Nodup
  apart : (t.objs.map num).Nodup
  gone : ∀ g ∈ gone, g ≤ t.ls ∧ ∀ o ∈ t.objs, num o ≠ g
theorem num_ne {l : List Obj} (h : (l.map num).Nodup) {i j : Nat} {p q : Obj} (hi : l[i]? = some p) (hj : l[j]? = some q) (hij : i ≠ j) : num p ≠ num q := fun e => by
  have h1 := List.pairwise_iff_getElem.1 h
  have hi1 := (List.getElem?_eq_some_iff.1 hi).1
  have hj1 := (List.getElem?_eq_some_iff.1 hj).1
  rw [List.getElem?_eq_getElem hi1] at hi
  rw [List.getElem?_eq_getElem hj1] at hj
  cases hi
  cases hj
  rcases Nat.lt_or_ge i j with h2 | h2
  · have h3 := h1 i j (by simpa using hi1) (by simpa using hj1) h2
    rw [List.getElem_map, List.getElem_map] at h3
    exact h3 e
  · have h3 := h1 j i (by simpa using hj1) (by simpa using hi1) (by omega)
    rw [List.getElem_map, List.getElem_map] at h3
    exact h3 e.symm
theorem inv_begin {sl : Nat} {gone : List Int} {t : Tb} {o : Op} (h : Inv sl gone t) : Inv sl gone (if beginC t.nx o = 0 then { t with nx := t.nx + 1 } else t) := by
  by_cases hb : beginC t.nx o = 0
  · rw [if_pos hb]
    unfold beginC at hb
    split at hb
    · rename_i hc
      obtain ⟨h1, h2⟩ := hc
      have := h.x0
      have := h.x1
      exact ⟨h.few, by show 1 ≤ t.nx + 1; omega, by show t.nx + 1 ≤ 4294967295; omega, h.each, h.apart, h.gone⟩
    · cases hb
  · rw [if_neg hb]
    exact h
theorem commit_zero {sl nd : Nat} {t : Tb} {o : Op} (h : commitC sl nd t o = 0) : numAt t.objs o.num < 0 ∧ t.ls < o.num ∧ t.n < 64 ∧ there t.objs o.name = false := by
  unfold commitC at h
  split at h
  · cases h
  · split at h
    · cases h
    · rename_i h1
      split at h
      · cases h
      · rename_i h2
        split at h
        · cases h
        · rename_i h3
          refine ⟨?_, ?_, by omega, by cases hh : there t.objs o.name <;> simp_all⟩
          · rcases Int.lt_or_le (numAt t.objs o.num) 0 with h4 | h4
            · exact h4
            · exact absurd (.inr h4) h1
          · rcases Int.lt_or_le t.ls o.num with h4 | h4
            · exact h4
            · exact absurd (.inl h4) h2
theorem inv_commit {sl nd : Nat} {gone : List Int} {t t' : Tb} {o : Op} {w : World} (h : Inv sl gone t) (hn : t.objs.length = t.n) (ho : OpAt w o) (hr : CommitR sl nd t o w (commitC sl nd t o) t') : Inv sl gone t' := by
  by_cases hc : commitC sl nd t o = 0
  · obtain ⟨_, hp, hx, hl, ob, hk, hobs⟩ := hr.2 hc
    obtain ⟨_, h2, h3, _⟩ := commit_zero hc
    have hmem : ∀ x ∈ t'.objs, x ∈ t.objs ∨ x = ob := fun x hx => by
      rw [hobs] at hx
      rcases List.mem_append.1 hx with hx | hx
      · rcases List.mem_append.1 hx with hx | hx
        · exact .inl (List.mem_of_mem_take hx)
        · exact .inr (by simpa using hx)
      · exact .inl (List.mem_of_mem_drop hx)
    have hold : ∀ x ∈ t.objs, num x ≠ num ob := fun x hx => by
      have := (h.each x hx).1
      rw [hk.num]
      omega
    refine ⟨?_, by rw [hx]; exact h.x0, by rw [hx]; exact h.x1, fun x hxm => ?_, ?_, fun g hg => ⟨?_, fun x hxm => ?_⟩⟩
    · rw [hobs]
      simp
      omega
    · rcases hmem x hxm with hx1 | rfl
      · refine ⟨?_, (h.each x hx1).2⟩
        have := (h.each x hx1).1
        rw [hl]
        omega
      · refine ⟨by rw [hl, hk.num]; exact Int.le_refl _, by rw [hk.len]; have h4 := (sl_len ho.rows).1; have h5 := hp.n; have h6 := hp.c1; have h7 : o.rows.length = o.n := h4; omega, fun r' hr' => ?_⟩
        obtain ⟨i, hi, hir⟩ := List.getElem_of_mem hr'
        obtain ⟨r, hrr⟩ : ∃ r, o.rows[i]? = some r := ⟨_, List.getElem?_eq_getElem (by rw [← hk.len]; exact hi)⟩
        obtain ⟨ha1, ha2⟩ := hk.alike i r r' hrr (by rw [List.getElem?_eq_getElem hi, hir])
        have hright := hp.rows r (List.mem_of_getElem? hrr)
        have hrok : (Sh.sl plS).ok w (rA r, rN r, rC r, rP r) := sl_each ho.rows hrr
        refine ⟨by rw [ha1, ← hright.all]; exact (sl_len hrok).1.symm, by rw [ha2]; exact hright.apart⟩
    · rw [hobs]
      have hperm : (t.objs.take (place t.objs o.name) ++ [ob] ++ t.objs.drop (place t.objs o.name)).Perm (ob :: t.objs) := by
        have h1 := @List.perm_middle _ ob (t.objs.take (place t.objs o.name)) (t.objs.drop (place t.objs o.name))
        rw [List.take_append_drop] at h1
        simpa using h1
      rw [(hperm.map num).nodup_iff]
      rw [List.map_cons, List.nodup_cons]
      refine ⟨fun hm => ?_, h.apart⟩
      obtain ⟨x, hx1, hx2⟩ := List.mem_map.1 hm
      exact hold x hx1 hx2
    · have := (h.gone g hg).1
      rw [hl]
      omega
    · rcases hmem x hxm with hx1 | rfl
      · exact (h.gone g hg).2 x hx1
      · have := (h.gone g hg).1
        rw [hk.num]
        omega
  · rw [hr.1 hc]
    exact h
theorem inv_sub {sl : Nat} {gone : List Int} {t t' : Tb} (h : Inv sl gone t) (hx : t'.nx = t.nx) (hl : t'.ls = t.ls) (hs : t'.objs.Sublist t.objs) : Inv sl gone t' :=
  ⟨Nat.le_trans hs.length_le h.few, by rw [hx]; exact h.x0, by rw [hx]; exact h.x1, fun o ho => by rw [hl]; exact h.each o (hs.mem ho), h.apart.sublist (hs.map num), fun g hg => by rw [hl]; exact ⟨(h.gone g hg).1, fun o ho => (h.gone g hg).2 o (hs.mem ho)⟩⟩
theorem removed_sub {t t' : Tb} {i : Nat} (h : removed t i t') : t'.objs.Sublist t.objs := by
  rw [h.2.2, ← List.eraseIdx_eq_take_drop_succ]
  exact List.eraseIdx_sublist ..
/-- An object that is let go. -/
theorem inv_gone {sl : Nat} {gone : List Int} {t t' : Tb} {i : Nat} {ob : Obj} (h : Inv sl gone t) (hr : removed t i t') (ho : t.objs[i]? = some ob) : Inv sl (gone ++ [num ob]) t' := by
  have h0 := inv_sub h hr.1 hr.2.1 (removed_sub hr)
  refine ⟨h0.few, h0.x0, h0.x1, h0.each, h0.apart, fun g hg => ?_⟩
  rcases List.mem_append.1 hg with hg | hg
  · exact h0.gone g hg
  · have hg : g = num ob := by simpa using hg
    subst hg
    refine ⟨by rw [hr.2.1]; exact (h.each ob (List.mem_of_getElem? ho)).1, fun x hx => ?_⟩
    rw [hr.2.2] at hx
    rcases List.mem_append.1 hx with hx | hx
    · obtain ⟨j, hj, hjx⟩ := List.getElem_of_mem hx
      have hj2 : j < i ∧ j < t.objs.length := by simp at hj; exact ⟨by omega, by omega⟩
      have : t.objs[j]? = some x := by
        rw [← hjx, List.getElem_take, List.getElem?_eq_getElem hj2.2]
      exact num_ne h.apart this ho (by omega)
    · obtain ⟨j, hj, hjx⟩ := List.getElem_of_mem hx
      have hj2 : i + 1 + j < t.objs.length := by simp at hj; omega
      have : t.objs[i + 1 + j]? = some x := by
        rw [← hjx, List.getElem_drop, List.getElem?_eq_getElem hj2]
      exact num_ne h.apart this ho (by omega)
theorem inv_move {sl nd : Nat} {gone : List Int} {t t' : Tb} {o : Op} (h : Inv sl gone t) (hr : MoveR sl nd t o (moveC sl nd t o) t') : Inv sl gone t' := by
  by_cases hc : moveC sl nd t o = 0
  · obtain ⟨k, ob, ob', hk, hob, hright, hm, hx, hl, hobs⟩ := hr.2 hc
    have hkl := (List.getElem?_eq_some_iff.1 hob).1
    have hmap : (t.objs.set k ob').map num = t.objs.map num := by
      rw [List.map_set, hm.num]
      apply List.ext_getElem?
      intro i
      rcases Decidable.em (i = k) with hi | hi
      · subst hi
        rw [List.getElem?_set, List.getElem?_map, hob]
        simp [hkl]
      · rw [List.getElem?_set_ne (Ne.symm hi)]
    have hmem : ∀ x ∈ t'.objs, x ∈ t.objs ∨ x = ob' := fun x hx => by
      rw [hobs] at hx
      exact List.mem_or_eq_of_mem_set hx
    have hobm := List.mem_of_getElem? hob
    refine ⟨by rw [hobs, List.length_set]; exact h.few, by rw [hx]; exact h.x0, by rw [hx]; exact h.x1, fun x hxm => ?_, by rw [hobs, hmap]; exact h.apart, fun g hg => ⟨by rw [hl]; exact (h.gone g hg).1, fun x hxm => ?_⟩⟩
    · rw [hl]
      rcases hmem x hxm with hx1 | rfl
      · exact h.each x hx1
      · refine ⟨by rw [hm.num]; exact (h.each ob hobm).1, by rw [hm.len]; exact (h.each ob hobm).2.1, fun r' hr' => ?_⟩
        obtain ⟨i, hi, hir⟩ := List.getElem_of_mem hr'
        obtain ⟨r, hrr⟩ : ∃ r, (rows ob)[i]? = some r := ⟨_, List.getElem?_eq_getElem (by rw [← hm.len]; exact hi)⟩
        obtain ⟨ha1, ha2⟩ := hm.each i r r' hrr (by rw [List.getElem?_eq_getElem hi, hir])
        have hold := (h.each ob hobm).2.2 r (List.mem_of_getElem? hrr)
        refine ⟨by rw [ha1]; exact hold.1, ?_⟩
        rw [ha2]
        split
        · rename_i hij
          subst hij
          have hto : toRow t o = (rP r).set o.slot.toNat (pl o.node o.gen) := by
            unfold toRow rowOf
            have e1 : t.objs[(numAt t.objs o.num).toNat]? = some ob := by rw [hk]; exact hob
            rw [e1]
            simp only [hrr]
          rw [← hto]
          exact hright.apart
        · exact hold.2
    · rcases hmem x hxm with hx1 | rfl
      · exact (h.gone g hg).2 x hx1
      · rw [hm.num]
        exact (h.gone g hg).2 ob hobm
  · rw [hr.1 hc]
    exact h
/-- Behind any operation. -/
theorem inv_apply {sl nd : Nat} {gone : List Int} {t t' : Tb} {o : Op} {w : World} (h : Inv sl gone t) (hn : t.objs.length = t.n) (ho : OpAt w o) (hr : ApplyR sl nd t o w t') : Inv sl gone t' := by
  unfold ApplyR at hr
  split at hr
  · rw [hr]
    exact inv_begin h
  · split at hr
    · exact inv_commit h hn ho hr
    · split at hr
      · split at hr
        · exact inv_sub h hr.1 hr.2.1 (removed_sub hr)
        · rw [hr]; exact h
      · split at hr
        · exact inv_move h hr
        · rw [hr]; exact h
/-- Behind a removal. -/
theorem inv_removal {sl nd : Nat} {gone : List Int} {t t' : Tb} {o : Op} {w : World} {ob : Obj} (h : Inv sl gone t) (hk : o.kind = 3) (hf : found t.objs o.name = some ob) (hr : ApplyR sl nd t o w t') : Inv sl (gone ++ [num ob]) t' := by
  unfold ApplyR at hr
  rw [if_neg (by omega), if_neg (by omega), if_pos hk] at hr
  unfold found at hf
  split at hf
  · rename_i ht
    rw [if_pos ht] at hr
    exact inv_gone h hr hf
  · cases hf
theorem inv_new {sl : Nat} {A : Option Addr} {c : Nat} : Inv sl [] ⟨1, 0, A, 0, c, []⟩ := ⟨Nat.zero_le _, by show (1 : Int) ≤ 1; decide, by show (1 : Int) ≤ 4294967295; decide, fun o ho => (by cases ho), List.nodup_nil, fun g hg => (by cases hg)⟩
theorem obj_rows {w : World} {o : Obj} (h : objS.ok w o) : (rows o).length = pN o := (sl_len (obj_ok h).2.2.2).1
theorem Inv.small {sl : Nat} {gone : List Int} {t : Tb} {w : World} {gt nd sl' : Nat} (h : Inv sl gone t) (ht : TbAt w gt sl' nd t) (hs : sl ≤ 24) : ∀ o ∈ t.objs, Small o := fun o ho => by
  obtain ⟨i, hi, hio⟩ := List.getElem_of_mem ho
  have hok : objS.ok (erase w gt) o := sl_each ht.ok (i := i) (by rw [List.getElem?_eq_getElem hi, hio])
  have h1 := obj_rows hok
  obtain ⟨_, h2, h3⟩ := h.each o ho
  exact ⟨by omega, fun r hr => by have := (h3 r hr).1; omega⟩
theorem Inv.n {sl : Nat} {gone : List Int} {t : Tb} {w : World} {gt nd sl' : Nat} (h : Inv sl gone t) (ht : TbAt w gt sl' nd t) : t.objs.length = t.n ∧ t.n ≤ 64 := by
  have h1 := (sl_len ht.ok).1
  have h2 : t.objs.length = t.n := h1
  have := h.few
  omega
end Go.Proofs.Ytfhgjopoohfhjaa.Tbl
