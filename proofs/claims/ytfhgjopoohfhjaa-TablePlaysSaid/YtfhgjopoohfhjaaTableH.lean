/- What begins, walked; what a changed table is. -/
import Derived.Test.YtfhgjopoohfhjaaTableG
import Derived.Test.YtfhgjopoohfhjaaInserts
import Derived.BigQuiet
namespace Go.Proofs.Ytfhgjopoohfhjaa.Tbl
open Go.RowKit Base Step Vec Shape Erase
/-- A table, in memory and out of it. -/
structure Tb where
  nx : Int
  ls : Int
  A : Option Addr
  n : Nat
  c : Nat
  objs : List Obj
abbrev TbAt (w : World) (gt sl nd : Nat) (t : Tb) : Prop := TblAt w gt sl nd t.nx t.ls t.A t.n t.c t.objs
/-- A call that answers so, and leaves such a table: all else that was there is as it was. -/
def Did (w : World) (gt sl nd : Nat) (code : Int) (R : Tb → World → Prop) (e : Ending) (w' : World) : Prop :=
  e = .returned (.int .i64 code) ∧ Chg (fun i => i = gt) w w' ∧ ∃ t, TbAt w' gt sl nd t ∧ R t w'
/-- An operation's cells. -/
abbrev opL (o : Op) : List Value := [.int .i64 o.kind, .int .u32 o.num, .string o.name, .int .i64 o.l, .int .i64 o.c, .int .i64 o.p, .slice o.A o.n o.cap, .int .i64 o.stripe, .int .i64 o.slot, .int .i64 o.node, .int .u32 o.gen]
/-- The table's block, written anew. -/
theorem TblAt.put {w w' : World} {gt sl nd : Nat} {nx' ls' : Int} {A' : Option Addr} {n' c' : Nat} {objs' : List Obj} (hc : Chg (fun i => i = gt) w w') (hb : w'.heap[gt]? = some (.cells #[.int .i64 sl, .int .i64 nd, .int .u32 nx', .int .u32 ls', .slice A' n' c'] 215 (0, 0)))
    (hok : (Sh.sl objS).ok (erase w gt) (A', n', c', objs')) : TblAt w' gt sl nd nx' ls' A' n' c' objs' := ⟨hb, Sh.ok_ext (erase_chg hc) _ _ hok⟩
def beginC (nx : Int) (o : Op) : Int := if o.num = nx ∧ o.num ≠ 4294967295 then 0 else 28
set_option maxRecDepth 100000 in
set_option maxHeartbeats 2000000 in
theorem begin_calls (gt sl nd : Nat) (t : Tb) (o : Op) (w : World) (h : TbAt w gt sl nd t) (hx0 : 0 ≤ t.nx) (hx1 : t.nx ≤ 4294967295) :
    Calls Try.prog 125 #[.pointer (some ⟨gt, 0, none⟩), opV o] w (Did w gt sl nd (beginC t.nx o) fun t' _ => t' = if beginC t.nx o = 0 then { t with nx := t.nx + 1 } else t) := by
  obtain ⟨nx, ls, A, n, c, objs⟩ := t
  have hx0 : 0 ≤ nx := hx0
  have hx1 : nx ≤ 4294967295 := hx1
  have h : TblAt w gt sl nd nx ls A n c objs := h
  obtain ⟨Q, hQ⟩ : ∃ Q, Q = Did w gt sl nd (beginC nx o) fun t' _ => t' = if beginC nx o = 0 then ⟨nx + 1, ls, A, n, c, objs⟩ else ⟨nx, ls, A, n, c, objs⟩ := ⟨_, rfl⟩
  have HQ := Lib.hid hQ
  show Calls Try.prog 125 #[.pointer (some ⟨gt, 0, none⟩), opV o] w (Did w gt sl nd (beginC nx o) fun t' _ => t' = if beginC nx o = 0 then ⟨nx + 1, ls, A, n, c, objs⟩ else ⟨nx, ls, A, n, c, objs⟩)
  rw [← hQ]
  clear hQ
  have e0 := Lib.hid (Ext.new w (.cells (opC o) 120))
  have hb := at_new w (.cells (opC o) 120)
  have H := Lib.hid h
  clear h
  go_enter Try.func125, Try.ntmps125
  go_upto_region 1 with fail
  generalize w.alloc (.cells (opC o) 120) = w1 at *
  have hat := (H.out.ext e0.out).at_
  have b1 : w1.cell? ⟨w.heap.size, 1, none⟩ = some (.int .u32 o.num) := blk_cell (i := 1) hb (Ext.refl _) rfl
  have t2 : w1.cell? ⟨gt, 2, none⟩ = some (.int .u32 nx) := blk_cell (i := 2) hat (Ext.refl _) rfl
  have f2 : w1.frozen? ⟨gt, 2, none⟩ = false := Pack.free_of hat 2
  have HB := Lib.hid hb
  have HAT := Lib.hid hat
  clear hb hat
  by_cases h1 : o.num = nx ∧ o.num ≠ 4294967295
  · have hbc : beginC nx o = 0 := by unfold beginC; rw [if_pos h1]
    have HBC := Lib.hid hbc
    obtain ⟨h1, h2⟩ := h1
    have hd1 : (o.num != nx) = false := by simp [h1]
    have hd2 : (o.num == 4294967295) = false := by simp [h2]
    have hw : IntKind.u32.wrap (nx + 1) = nx + 1 := wrap_u32 (by omega) (by omega)
    clear hbc h1 h2
    go_quiet (fail)
    go_wp2_with fail
    rw [HQ.out, HBC.out]
    have hs := set_blk (w := w1.drewN nq) (i := 2) HAT.out (.int .u32 (nx + 1))
    have hc : Chg (fun i => i = gt) w1 ((w1.drewN nq).setCell ⟨gt, 2, none⟩ (.int .u32 (nx + 1))) := (Chg.drewN (Chg.refl (fun i => i = gt) w1) nq).setCell (p := ⟨gt, 2, none⟩) rfl _
    have hok := Sh.ok_ext (erase_ext e0.out) _ _ H.out.ok
    exact ⟨rfl, ext_chg e0.out hc, ⟨nx + 1, ls, A, n, c, objs⟩, TblAt.put hc (by simpa using hs) hok, (if_pos rfl).symm⟩
  · have hbc : beginC nx o = 28 := by unfold beginC; rw [if_neg h1]
    have HBC := Lib.hid hbc
    have hst : ∀ nq, TblAt (w1.drewN nq) gt sl nd nx ls A n c objs := fun nq => (H.out.ext e0.out).ext (Ext.drewN (Ext.refl _) nq)
    have HST := Lib.hid hst
    have hcc : ∀ nq, Chg (fun i => i = gt) w (w1.drewN nq) := fun nq => Below.chg (Ext.drewN e0.out nq)
    by_cases h2 : o.num = nx
    · have h3 : o.num = 4294967295 := by
        rcases Decidable.em (o.num = 4294967295) with h | h
        · exact h
        · exact absurd ⟨h2, h⟩ h1
      have hd1 : (o.num != nx) = false := by simp [h2]
      have hd2 : (o.num == 4294967295) = true := by simp [h3]
      clear hbc h1 h2 h3 hst
      go_quiet (fail)
      go_wp2_with fail
      rw [HQ.out, HBC.out]
      exact ⟨rfl, hcc _, ⟨nx, ls, A, n, c, objs⟩, HST.out _, (if_neg (by decide)).symm⟩
    · have hd1 : (o.num != nx) = true := by simp [h2]
      clear hbc h1 h2 hst
      go_quiet (fail)
      go_wp2_with fail
      rw [HQ.out, HBC.out]
      exact ⟨rfl, hcc _, ⟨nx, ls, A, n, c, objs⟩, HST.out _, (if_neg (by decide)).symm⟩
theorem cellsL_app (e : Sh) (l m : List e.T) : cellsL e (l ++ m) = cellsL e l ++ cellsL e m := by simp [cellsL]
theorem cellsL_take (e : Sh) : ∀ (l : List e.T) (i : Nat), (cellsL e l).take (i * e.size) = cellsL e (l.take i)
  | [], i => by simp [cellsL]
  | x :: l, 0 => by simp [cellsL]
  | x :: l, i + 1 => by
    have h1 : cellsL e (x :: l) = e.cells x ++ cellsL e l := rfl
    have h2 : cellsL e ((x :: l).take (i + 1)) = e.cells x ++ cellsL e (l.take i) := rfl
    rw [h1, h2, Nat.succ_mul, List.take_append, List.take_of_length_le (by rw [e.cells_length]; omega), e.cells_length, Nat.add_sub_cancel, cellsL_take e l i]
theorem cellsL_drop (e : Sh) : ∀ (l : List e.T) (i : Nat), (cellsL e l).drop (i * e.size) = cellsL e (l.drop i)
  | [], i => by simp [cellsL]
  | x :: l, 0 => by simp
  | x :: l, i + 1 => by
    have h1 : cellsL e (x :: l) = e.cells x ++ cellsL e l := rfl
    have h2 : cellsL e ((x :: l).drop (i + 1)) = cellsL e (l.drop i) := rfl
    rw [h1, h2, Nat.succ_mul, List.drop_append, List.drop_of_length_le (by rw [e.cells_length]; omega), e.cells_length, Nat.add_sub_cancel, cellsL_drop e l i, List.nil_append]
theorem cellsL_one_ (e : Sh) (l : List e.T) : ∀ u ∈ cellsL e l, u.oneCell' = true := fun u hu => by
  obtain ⟨x, _, hx⟩ := List.mem_flatMap.1 hu
  exact Sh.cells_one e x u hx
theorem own_max {w : World} {S : Nat → Prop} {e : TypeId} {size n c : Nat} {A : Option Addr} {xs : List Value} (h : Own w S e size (.slice A n c) n xs) : c ≤ maxLen := by
  rcases A with _ | ad
  · have := (Splice.own_none h).2.1
    omega
  · obtain ⟨g, cur, _, _, _, h1, _⟩ := Splice.blk_own h
    exact h1
/-- The objects of a new row. -/
theorem new_objs {w W : World} {gt : Nat} {A : Option Addr} {n c : Nat} {objs : List Obj} (hgt : gt < w.heap.size) (ho : Own W (fun i => w.heap.size ≤ i) 108 6 (.slice A n c) n (cellsL objS objs)) (hl : objs.length = n) (hx : ∀ x ∈ objs, objS.ok (erase W gt) x) : (Sh.sl objS).ok (erase W gt) (A, n, c, objs) :=
  ok_own (W := W) ho (by decide) hl hx (fun a v hb hc => cell_erase hc (own_not ho (by decide) hb) fun e => by
    rcases A with _ | ad
    · simp at hb
    · simp at hb
      have := ho.foot ad.block rfl
      omega) (own_max ho)
theorem objs_ext {w w' : World} {gt : Nat} {A : Option Addr} {n c : Nat} {objs : List Obj} (h : (Sh.sl objS).ok (erase w gt) (A, n, c, objs)) (he : Ext w w') : ∀ x ∈ objs, objS.ok (erase w' gt) x := fun x hx => by
  obtain ⟨i, hi, hix⟩ := List.getElem_of_mem hx
  exact Sh.ok_ext (erase_ext he) _ _ (sl_each h (i := i) (by rw [List.getElem?_eq_getElem hi, hix]))
/-- What stands behind a removal. -/
def removed (t : Tb) (i : Nat) (t' : Tb) : Prop := t'.nx = t.nx ∧ t'.ls = t.ls ∧ t'.objs = t.objs.take i ++ t.objs.drop (i + 1)
def removeC (t : Tb) (o : Op) : Int := if there t.objs o.name then 0 else 6
set_option maxRecDepth 100000 in
set_option maxHeartbeats 2000000 in
theorem remove_calls (gt sl nd : Nat) (t : Tb) (o : Op) (w : World) (h : TbAt w gt sl nd t) (hn : t.n ≤ 1099511627776) :
    Calls Try.prog 127 #[.pointer (some ⟨gt, 0, none⟩), opV o] w (Did w gt sl nd (removeC t o) fun t' _ => if there t.objs o.name then removed t (place t.objs o.name) t' else t' = t) := by
  obtain ⟨Q, hQ⟩ : ∃ Q, Q = Did w gt sl nd (removeC t o) fun t' _ => if there t.objs o.name then removed t (place t.objs o.name) t' else t' = t := ⟨_, rfl⟩
  have HQ := Lib.hid hQ
  rw [← hQ]
  clear hQ
  obtain ⟨nx, ls, A, n, c, objs⟩ := t
  have hn : n ≤ 1099511627776 := hn
  have h : TblAt w gt sl nd nx ls A n c objs := h
  have e0 := Lib.hid (Ext.new w (.cells (opC o) 120))
  have hb := at_new w (.cells (opC o) 120)
  have H := Lib.hid h
  clear h
  go_enter Try.func127, Try.ntmps127
  go_upto_region 1 with fail
  generalize w.alloc (.cells (opC o) 120) = w1 at *
  have b2 : w1.cell? ⟨w.heap.size, 2, none⟩ = some (.string o.name) := blk_cell (i := 2) hb (Ext.refl _) rfl
  have H1 := Lib.hid (H.out.ext e0.out)
  clear hb
  go_wp2_with fail
  refine (index_calls gt sl nd nx ls A n c objs o.name w1 H1.out hn).mono ?_
  rintro e w2 ⟨rfl, he2⟩
  have H2 := Lib.hid (H1.out.ext he2)
  have HE2 := Lib.hid (e0.out.trans he2)
  clear he2
  cases hth : there objs o.name with
  | false =>
    have HTH := Lib.hid hth
    clear hth
    go_wp2_with fail
    rw [HQ.out]
    unfold removeC
    dsimp only
    rw [HTH.out]
    exact ⟨rfl, Below.chg HE2.out, ⟨nx, ls, A, n, c, objs⟩, H2.out, rfl⟩
  | true =>
    have HTH := Lib.hid hth
    obtain ⟨ob, hob, _⟩ := there_at hth
    have hpl : place objs o.name < n := by
      have h1 := (List.getElem?_eq_some_iff.1 hob).1
      have h2 := (sl_len H2.out.ok).1
      omega
    clear hth hob
    generalize hpp : place objs o.name = k at *
    have HPP := Lib.hid hpp
    clear hpp
    obtain ⟨hl, hnc, hcm, hA0⟩ := sl_len H2.out.ok
    have t4 : w2.cell? ⟨gt, 4, none⟩ = some (.slice A n c) := blk_cell (i := 4) H2.out.at_ (Ext.refl _) rfl
    have HL := Lib.hid hl
    clear hl
    go_wp2_with fail
    refine (Clones.cloneObj A n c (cellsL objS objs) w2 (by rw [cellsL_length, HL.out]; rfl) (fun h => by have := hA0 h; omega) (fun ad ha j u hu => ok_cells (Sh.ok_off H2.out.ok) (by decide) ad ha j u hu) (cellsL_one_ _ _) (by omega)).mono ?_
    rintro e w3 ⟨he3, A3, c3, rfl, ho3⟩
    have HE3 := Lib.hid (HE2.out.trans he3)
    have HE3b := Lib.hid he3
    have HO3 := Lib.hid ho3
    clear he3 ho3 t4 hA0
    go_wp2_with fail
    refine (Inserts.deleteObj (fun i => w2.heap.size ≤ i) A3 n c3 k (cellsL objS objs) w3 HO3.out hpl (cellsL_one_ _ _) (by omega)).mono ?_
    rintro e w4 ⟨A4, c4, rfl, ho4, hc4⟩
    have he4 : Ext w2 w4 := HE3b.out.chg hc4 fun i hi => HO3.out.foot i hi
    have HE4 := Lib.hid he4
    have H4 := Lib.hid (H2.out.ext he4)
    have t4 : w4.cell? ⟨gt, 4, none⟩ = some (.slice A n c) := blk_cell (i := 4) H4.out.at_ (Ext.refl _) rfl
    have f4 : w4.frozen? ⟨gt, 4, none⟩ = false := Pack.free_of H4.out.at_ 4
    have hcut : (cellsL objS objs).take (k * 6) ++ (cellsL objS objs).drop ((k + 1) * 6) = cellsL objS (objs.take k ++ objs.drop (k + 1)) := by
      rw [cellsL_app, ← cellsL_take, ← cellsL_drop]; rfl
    rw [hcut] at ho4
    have HO4 := Lib.hid ho4
    clear ho4 he4 hc4 hcut
    go_wp2_with fail
    rw [HQ.out]
    unfold removeC
    dsimp only
    rw [HTH.out]
    have hc : Chg (fun i => i = gt) w4 (w4.setCell ⟨gt, 4, none⟩ (.slice A4 (n - 1) c4)) := (Chg.refl (fun i => i = gt) w4).setCell (p := ⟨gt, 4, none⟩) rfl _
    have hs := set_blk (w := w4) (i := 4) H4.out.at_ (.slice A4 (n - 1) c4)
    have hok := new_objs (gt := gt) H2.out.lt HO4.out (by rw [List.length_append, List.length_take, List.length_drop, HL.out]; omega) fun x hx => objs_ext H4.out.ok (Ext.refl _) x ((List.mem_append.1 hx).elim List.mem_of_mem_take List.mem_of_mem_drop)
    exact ⟨rfl, ext_chg (HE2.out.trans HE4.out) hc, ⟨nx, ls, A4, n - 1, c4, _⟩, TblAt.put hc (by simpa using hs) hok, rfl, rfl, rfl⟩
end Go.Proofs.Ytfhgjopoohfhjaa.Tbl
