/- An object is let be there, walked. -/
import Derived.Test.YtfhgjopoohfhjaaTableH
namespace Go.Proofs.Ytfhgjopoohfhjaa.Tbl
open Go.RowKit Base Step Vec Shape Erase
section
variable {P : Program}
/-- A struct is loaded, guarded or not. -/
theorem wpList_load_rowG {ops : Array Oper} {rest : List Oper} {o : Oper} {a : Act} {w : World} {Q : Exit → Act → World → Prop} (hgd : Region.wanted o (yielded ops a.tmps) = true) (ty : TypeId) (x : Operand) (ho : o.op = .load ty x)
    (g : Nat) (hx : a.eval x = .pointer (some ⟨g, 0, none⟩)) (t : TypeId) (cs : Array Value) (fr : Nat × Nat) (d : TypeDesc) (hg : w.heap[g]? = some (.cells cs t fr))
    (hu : P.underlying ty = some d) (hd : (match d with | .struct _ | .array _ _ => true | _ => false) = true) (hi : (P.info? ty).map (·.size) = some cs.size)
    (h : wpList P ops Q rest (a.put o.dst (.agg cs)) w) : wpList P ops Q (o :: rest) a w := by
  refine wpList_step fun K hK => ?_
  rw [if_pos hgd]
  exact wp_load_row ty x ho g hx t cs fr d hg hu hd hi (hK _ _ h)
end
/-- An operation whose data can be walked. -/
structure OpAt (w : World) (o : Op) : Prop where
  num : (Lit.int .u32 o.num).wf = true
  name : o.name.size ≤ 140737488355328
  l : (Lit.int .i64 o.l).wf = true
  c : (Lit.int .i64 o.c).wf = true
  p : (Lit.int .i64 o.p).wf = true
  rows : (Sh.sl rowS).ok w (o.A, o.n, o.cap, o.rows)
  few : o.n ≤ 1099511627776
  each : ∀ r ∈ o.rows, rN r ≤ 8796093021952
  gen : (Lit.int .u32 o.gen).wf = true
  node : (Lit.int .i64 o.node).wf = true
theorem OpAt.ext {w w' : World} {o : Op} (h : OpAt w o) (he : Ext w w') : OpAt w' o := ⟨h.num, h.name, h.l, h.c, h.p, Sh.ok_ext he _ _ h.rows, h.few, h.each, h.gen, h.node⟩
/-- The object of an operation. -/
def obOf (o : Op) : Obj := (o.num, o.name, (o.l, o.c, o.p, ()), (o.A, o.n, o.cap, o.rows), ())
theorem obOf_ok {w : World} {o : Op} (h : OpAt w o) : objS.ok w (obOf o) := by
  have h1 : (Lit.int .u32 o.num).wf = true ∧ o.name.size ≤ maxLen ∧ planS.ok w (o.l, o.c, o.p, ()) ∧ (Sh.sl rowS).ok w (o.A, o.n, o.cap, o.rows) ∧ True :=
    ⟨h.num, by have := h.name; simp only [maxLen]; omega, ⟨h.l, h.c, h.p, trivial⟩, h.rows, trivial⟩
  exact h1
/-- A copy is a datum, beside an old block. -/
theorem Copied.ok {w w' : World} {o o' : Obj} {gt : Nat} (h : Copied w w' o o') (ho : objS.ok w o) (hgt : gt < w.heap.size) : objS.ok (erase w' gt) o' := by
  obtain ⟨h1, h2, h3, h4⟩ := obj_ok ho
  have hpl := (sl_len h4).1
  have hplan : planS.ok (erase w' gt) (Tbl.plan o') := by rw [h.plan]; exact h3
  have hrows : (Sh.sl rowS).ok (erase w' gt) (pA o', pN o', pC o', rows o') := by
    refine ok_own (W := w') (e := rowS) h.prow (by decide) (by rw [h.rlen, h.len]; exact hpl) (fun r' hr' => ?_) (fun a v hb hc => cell_erase hc (own_not h.prow (by decide) hb) fun e => ?_) (own_max h.prow)
    · obtain ⟨i, hi, hir⟩ := List.getElem_of_mem hr'
      have hi2 : i < (rows o).length := by rw [← h.rlen]; exact hi
      obtain ⟨r, hr⟩ : ∃ r, (rows o)[i]? = some r := ⟨_, List.getElem?_eq_getElem hi2⟩
      obtain ⟨⟨ha1, ha2⟩, hn⟩ := h.alike i r r' hr (by rw [List.getElem?_eq_getElem hi, hir])
      have hrok : (Sh.sl plS).ok w (rA r, rN r, rC r, rP r) := sl_each h4 hr
      have hrl := (sl_len hrok).1
      refine ok_own (W := w') (e := plS) hn (by decide) (by show (rP r').length = rN r'; rw [ha2, ha1]; exact hrl) (fun x hx => ?_) (fun a v hb hc => cell_erase hc (own_not hn (by decide) hb) fun e => ?_) (own_max hn)
      · have hx : x ∈ rP r' := hx
        rw [ha2] at hx
        obtain ⟨j, hj, hjx⟩ := List.getElem_of_mem hx
        have := sl_each hrok (i := j) (x := x) (by rw [List.getElem?_eq_getElem hj, hjx])
        exact this
      · cases hA : r'.1 with
        | none => rw [hA] at hb; simp at hb
        | some ad =>
          rw [hA] at hb
          simp at hb
          have hfo : w.heap.size ≤ ad.block := hn.foot ad.block (by show Value.ownBlock (.slice r'.1 _ _) = _; rw [hA]; rfl)
          omega
    · cases hA : pA o' with
      | none => rw [hA] at hb; simp at hb
      | some ad =>
        rw [hA] at hb
        simp at hb
        have hfo : w.heap.size ≤ ad.block := h.prow.foot ad.block (by rw [hA]; rfl)
        omega
  have hall : (Lit.int .u32 o'.1).wf = true ∧ o'.2.1.size ≤ maxLen ∧ planS.ok (erase w' gt) o'.2.2.1 ∧ (Sh.sl rowS).ok (erase w' gt) (pA o', pN o', pC o', rows o') ∧ True :=
    ⟨by show (Lit.int .u32 (Tbl.num o')).wf = true; rw [h.num]; exact h1, by show (Tbl.name o').size ≤ maxLen; rw [h.name]; exact h2, hplan, hrows, trivial⟩
  exact hall
/-- The call's answer: a copy. -/
def copL (w0 : World) (o : Obj) : Lex.Loose := ⟨fun v => ∃ A c, v = .agg #[.int .u32 (num o), .string (name o), .int .i64 (plan o).1, .int .i64 (plan o).2.1, .int .i64 (plan o).2.2.1, .slice A (pN o) c], fun v W => ∃ o', v = objV o' ∧ Copied w0 W o o'⟩
theorem copL_st {w0 : World} {o : Obj} : (copL w0 o).St Ext := fun _ _ _ ⟨o', h1, h2⟩ he => ⟨o', h1, h2.ext_ he⟩
/-- .. and a row that holds it. -/
def litL (w0 : World) (o : Obj) : Lex.Loose := ⟨fun v => ∃ g, v = .slice (some ⟨g, 0, none⟩) 1 1, fun v W => ∃ g o', v = .slice (some ⟨g, 0, none⟩) 1 1 ∧ w0.heap.size ≤ g ∧ W.heap[g]? = some (.cells (objC o').toArray 108 (0, 0)) ∧ Copied w0 W o o'⟩
theorem litL_st {w0 : World} {o : Obj} : (litL w0 o).St Ext := fun _ _ _ ⟨g, o', h1, h2, h3, h4⟩ he => ⟨g, o', h1, h2, he.at_ h3, h4.ext_ he⟩
end Go.Proofs.Ytfhgjopoohfhjaa.Tbl
