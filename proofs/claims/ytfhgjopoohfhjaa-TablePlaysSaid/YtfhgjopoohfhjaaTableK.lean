/- A slot's shard is let be elsewhere: what that is. -/
import Derived.Test.YtfhgjopoohfhjaaTableJ
namespace Go.Proofs.Ytfhgjopoohfhjaa.Tbl
open Go.RowKit Base Step Vec Shape Erase
def pl (node gen : Int) : plS.T := (node, gen, ())
/-- An object whose rows are all newer than w. -/
structure Stood (w w' : World) (o : Obj) : Prop where
  n : (Lit.int .u32 (num o)).wf = true
  s : (name o).size ≤ maxLen
  p : ∀ W, planS.ok W (plan o)
  len : (rows o).length = pN o
  prow : New w w' 218 1 (pA o) (pN o) (pC o) (cellsL rowS (rows o))
  each : ∀ r ∈ rows o, RowNew w w' r ∧ (rP r).length = rN r ∧ ∀ x ∈ rP r, ∀ W, plS.ok W x
theorem plan_any {w W : World} {x : planS.T} (h : planS.ok w x) : planS.ok W x := by
  obtain ⟨h1, h2, h3, _⟩ : (Lit.int .i64 x.1).wf = true ∧ (Lit.int .i64 x.2.1).wf = true ∧ (Lit.int .i64 x.2.2.1).wf = true ∧ True := h
  exact ⟨h1, h2, h3, trivial⟩
theorem pl_any {w W : World} {x : plS.T} (h : plS.ok w x) : plS.ok W x := by
  obtain ⟨h1, h2, _⟩ : (Lit.int .i64 x.1).wf = true ∧ (Lit.int .u32 x.2.1).wf = true ∧ True := h
  exact ⟨h1, h2, trivial⟩
theorem Copied.stood {w w' : World} {o o' : Obj} (h : Copied w w' o o') (ho : objS.ok w o) : Stood w w' o' := by
  obtain ⟨h1, h2, h3, h4⟩ := obj_ok ho
  have hpl := (sl_len h4).1
  refine ⟨by rw [h.num]; exact h1, by rw [h.name]; exact h2, fun W => by rw [h.plan]; exact plan_any h3, by rw [h.rlen, h.len]; exact hpl, h.prow, fun r' hr' => ?_⟩
  obtain ⟨i, hi, hir⟩ := List.getElem_of_mem hr'
  obtain ⟨r, hr⟩ : ∃ r, (rows o)[i]? = some r := ⟨_, List.getElem?_eq_getElem (by rw [← h.rlen]; exact hi)⟩
  obtain ⟨⟨ha1, ha2⟩, hn⟩ := h.alike i r r' hr (by rw [List.getElem?_eq_getElem hi, hir])
  have hrok : (Sh.sl plS).ok w (rA r, rN r, rC r, rP r) := sl_each h4 hr
  have hrl := (sl_len hrok).1
  refine ⟨hn, by rw [ha2, ha1]; exact hrl, fun x hx W => ?_⟩
  rw [ha2] at hx
  obtain ⟨j, hj, hjx⟩ := List.getElem_of_mem hx
  have hok : plS.ok w x := sl_each hrok (i := j) (x := x) (by rw [List.getElem?_eq_getElem hj, hjx])
  exact pl_any hok
theorem Stood.ok {w w' : World} {o : Obj} {gt : Nat} (h : Stood w w' o) (hgt : gt < w.heap.size) : objS.ok (erase w' gt) o := by
  have hrows : (Sh.sl rowS).ok (erase w' gt) (pA o, pN o, pC o, rows o) := by
    refine ok_own (W := w') (e := rowS) h.prow (by decide) h.len (fun r hr => ?_) (fun a v hb hc => cell_erase hc (own_not h.prow (by decide) hb) fun e => ?_) (own_max h.prow)
    · obtain ⟨hn, hl, hx⟩ := h.each r hr
      refine ok_own (W := w') (e := plS) hn (by decide) hl (fun x hxm => hx x hxm _) (fun a v hb hc => cell_erase hc (own_not hn (by decide) hb) fun e => ?_) (own_max hn)
      cases hA : r.1 with
      | none => rw [hA] at hb; simp at hb
      | some ad =>
        rw [hA] at hb
        simp at hb
        have hfo : w.heap.size ≤ ad.block := hn.foot ad.block (by show Value.ownBlock (.slice r.1 _ _) = _; rw [hA]; rfl)
        omega
    · cases hA : pA o with
      | none => rw [hA] at hb; simp at hb
      | some ad =>
        rw [hA] at hb
        simp at hb
        have hfo : w.heap.size ≤ ad.block := h.prow.foot ad.block (by rw [hA]; rfl)
        omega
  have hall : (Lit.int .u32 o.1).wf = true ∧ o.2.1.size ≤ maxLen ∧ planS.ok (erase w' gt) o.2.2.1 ∧ (Sh.sl rowS).ok (erase w' gt) (pA o, pN o, pC o, rows o) ∧ True :=
    ⟨h.n, h.s, h.p _, hrows, trivial⟩
  exact hall
theorem Stood.ext {w w' w2 : World} {o : Obj} (h : Stood w w' o) (he : Ext w' w2) : Stood w w2 o := ⟨h.n, h.s, h.p, h.len, h.prow.extNew he, fun r hr => ⟨Own.extNew (h.each r hr).1 he, (h.each r hr).2⟩⟩
/-- Blocks of other types are written. -/
theorem Stood.kind {w w' w2 : World} {o : Obj} {S : Nat → Prop} (h : Stood w w' o) (hc : Chg S w' w2) (hk : ∀ i, S i → i < w'.heap.size → ∃ c e f, w'.heap[i]? = some (.cells c e f) ∧ e ≠ 218 ∧ e ≠ 118) : Stood w w2 o :=
  ⟨h.n, h.s, h.p, h.len, Own.kind h.prow hc fun i hi hlt => by obtain ⟨c, e, f, h1, h2, h3⟩ := hk i hi hlt; exact ⟨c, e, f, h1, Ne.symm h2⟩, fun r hr => ⟨Own.kind (h.each r hr).1 hc fun i hi hlt => by obtain ⟨c, e, f, h1, h2, h3⟩ := hk i hi hlt; exact ⟨c, e, f, h1, Ne.symm h3⟩, (h.each r hr).2⟩⟩
/-- One row of an object says something else. -/
def setRow (o : Obj) (j : Nat) (r : Row) : Obj := mkObj o (pA o) (pN o) (pC o) ((rows o).set j r)
theorem cellsL_set {l : List Row} {j : Nat} {r r' : Row} (h : l[j]? = some r) (hA : rA r' = rA r) (hn : rN r' = rN r) (hc : rC r' = rC r) : cellsL rowS (l.set j r') = cellsL rowS l := by
  apply List.ext_getElem?
  intro k
  rcases Nat.lt_or_ge k l.length with hk | hk
  · obtain ⟨x, hx⟩ : ∃ x, l[k]? = some x := ⟨_, List.getElem?_eq_getElem hk⟩
    by_cases hkj : k = j
    · subst hkj
      rw [h] at hx
      cases hx
      rw [cellsL_one h, cellsL_one (l := l.set k r') (r := r') (by rw [List.getElem?_set]; simp [hk]), hA, hn, hc]
    · rw [cellsL_one hx, cellsL_one (l := l.set j r') (r := x) (by rw [List.getElem?_set_ne (Ne.symm hkj)]; exact hx)]
  · have e1 : (cellsL rowS l).length ≤ k := by rw [cellsL_length]; simp [Sh.size]; omega
    have e2 : (cellsL rowS (l.set j r')).length ≤ k := by rw [cellsL_length]; simp [Sh.size]; omega
    rw [List.getElem?_eq_none e1, List.getElem?_eq_none e2]
/-- Behind a store into one of its rows. -/
theorem Stood.set {w w' w2 : World} {o : Obj} {j : Nat} {r r' : Row} {g : Nat} (h : Stood w w' o) (ha : Apart (rows o)) (hr : (rows o)[j]? = some r) (hA : rA r' = rA r) (hn : rN r' = rN r) (hC : rC r' = rC r) (hg : rA r = some ⟨g, 0, none⟩) (hc : Chg (fun i => i = g) w' w2) (hT : ∃ c f, w'.heap[g]? = some (.cells c 118 f)) (hown : RowNew w w2 r') (hl : (rP r').length = rN r') (hx : ∀ x ∈ rP r', ∀ W, plS.ok W x) : Stood w w2 (setRow o j r') := by
  refine ⟨h.n, h.s, h.p, by show ((rows o).set j r').length = pN o; rw [List.length_set]; exact h.len, ?_, fun q hq => ?_⟩
  · show New w w2 218 1 (pA o) (pN o) (pC o) (cellsL rowS ((rows o).set j r'))
    rw [cellsL_set hr hA hn hC]
    exact Own.kind h.prow hc fun i hi hlt => by
      obtain ⟨c, f, hh⟩ := hT
      subst hi
      exact ⟨c, _, f, hh, by decide⟩
  · have hq : q ∈ (rows o).set j r' := hq
    obtain ⟨i, hi, hiq⟩ := List.getElem_of_mem hq
    have hi2 : i < (rows o).length := by simpa using hi
    by_cases hij : i = j
    · subst hij
      have : q = r' := by rw [← hiq]; simp
      subst this
      exact ⟨hown, hl, hx⟩
    · have hqo : (rows o)[i]? = some q := by
        rw [← hiq, List.getElem?_eq_getElem hi2, List.getElem_set_ne (Ne.symm hij)]
      obtain ⟨h1, h2⟩ := h.each q (List.mem_of_getElem? hqo)
      refine ⟨Own.keep h1 fun k hk => hc.block k ?_ ?_, h2⟩
      · obtain ⟨c, f, hh⟩ := own_kind h1 hk
        exact Pack.lt_of_at hh
      · intro hkg
        have hkg : k = g := hkg
        subst hkg
        cases hA2 : rA q with
        | none => have hk : Value.ownBlock (.slice (rA q) (rN q) (rC q)) = some k := hk; rw [hA2] at hk; simp [Value.ownBlock] at hk
        | some a =>
          have hk : Value.ownBlock (.slice (rA q) (rN q) (rC q)) = some k := hk
          rw [hA2] at hk
          simp [Value.ownBlock] at hk
          rcases Nat.lt_or_ge i j with h3 | h3
          · exact ha i j q r h3 hqo hr a _ hA2 hg hk
          · exact ha j i r q (by omega) hr hqo _ a hg hA2 hk.symm
theorem setRow_cells (o : Obj) (j : Nat) (r : Row) : objC (setRow o j r) = objC o := rfl
def badMove (sl : Nat) (t : Tb) (o : Op) : Prop := numAt t.objs o.num < 0 ∨ o.stripe < 0 ∨ (∀ ob, t.objs[(numAt t.objs o.num).toNat]? = some ob → (pN ob : Int) ≤ o.stripe) ∨ o.slot < 0 ∨ (sl : Int) ≤ o.slot
def rowOf (t : Tb) (o : Op) : List plS.T := match t.objs[(numAt t.objs o.num).toNat]? with
  | some ob => (match (rows ob)[o.stripe.toNat]? with | some r => rP r | none => [])
  | none => []
def toRow (t : Tb) (o : Op) : List plS.T := (rowOf t o).set o.slot.toNat (pl o.node o.gen)
open Classical in
/-- What move answers. -/
noncomputable def moveC (sl nd : Nat) (t : Tb) (o : Op) : Int :=
  if badMove sl t o then 6
  else if ¬ Right sl nd (toRow t o) then 1
  else if ∃ p, (rowOf t o)[o.slot.toNat]? = some p ∧ o.gen ≤ gen p then 28 else 0
structure Moved (o : Op) (ob ob' : Obj) : Prop where
  num : num ob' = num ob
  name : name ob' = name ob
  plan : plan ob' = plan ob
  n : pN ob' = pN ob
  len : (rows ob').length = (rows ob).length
  each : ∀ (i : Nat) (r r' : Row), (rows ob)[i]? = some r → (rows ob')[i]? = some r' → rN r' = rN r ∧ rP r' = if i = o.stripe.toNat then (rP r).set o.slot.toNat (pl o.node o.gen) else rP r
def MoveR (sl nd : Nat) (t : Tb) (o : Op) (code : Int) (t' : Tb) : Prop := (code ≠ 0 → t' = t) ∧ (code = 0 → ∃ (k : Nat) (ob ob' : Obj), numAt t.objs o.num = k ∧ t.objs[k]? = some ob ∧ Right sl nd (toRow t o) ∧ Moved o ob ob' ∧ t'.nx = t.nx ∧ t'.ls = t.ls ∧ t'.objs = t.objs.set k ob')
theorem Copied.moved {w w' : World} {o : Op} {ob ob' : Obj} {r' : Row} (h : Copied w w' ob ob') (hr : (rows ob')[o.stripe.toNat]? = some r') (A : Option Addr) (c : Nat) : Moved o ob (setRow ob' o.stripe.toNat (mkRow A (rN r') c ((rP r').set o.slot.toNat (pl o.node o.gen)))) := by
  refine ⟨h.num, h.name, h.plan, h.len, by show ((rows ob').set _ _).length = _; rw [List.length_set]; exact h.rlen, fun i r q h1 h2 => ?_⟩
  have h2 : ((rows ob').set o.stripe.toNat (mkRow A (rN r') c ((rP r').set o.slot.toNat (pl o.node o.gen))))[i]? = some q := h2
  by_cases hi : i = o.stripe.toNat
  · subst hi
    have hlt := (List.getElem?_eq_some_iff.1 hr).1
    rw [List.getElem?_set] at h2
    simp only [hlt, if_true] at h2
    cases h2
    obtain ⟨⟨ha1, ha2⟩, _⟩ := h.alike _ r r' h1 hr
    simp only [if_true]
    exact ⟨ha1, by show (rP r').set _ _ = _; rw [ha2]⟩
  · rw [List.getElem?_set_ne (Ne.symm hi)] at h2
    obtain ⟨⟨ha1, ha2⟩, _⟩ := h.alike _ r q h1 h2
    simp only [hi, if_false]
    exact ⟨ha1, ha2⟩
theorem cellsL_put {e : Sh} : ∀ {l : List e.T} {i : Nat} {x : e.T}, i < l.length → Splice.putAt (cellsL e l) (i * e.size) (e.cells x) = cellsL e (l.set i x) := by
  intro l i x h
  have h1 : l.set i x = l.take i ++ [x] ++ l.drop (i + 1) := by rw [List.set_eq_take_append_cons_drop]; simp [h]
  unfold Splice.putAt
  rw [h1, cellsL_app, cellsL_app, ← cellsL_take, ← cellsL_drop, e.cells_length, Nat.succ_mul]
  simp [cellsL]
end Go.Proofs.Ytfhgjopoohfhjaa.Tbl
