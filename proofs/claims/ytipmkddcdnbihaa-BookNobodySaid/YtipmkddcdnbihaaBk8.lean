/- Texts put together: BookCopy, BookB, BookD, TableMask, DiaryAwake. Contracts and plain facts, no condition but what each says. -/
import Derived.Lib.SlBytesConst
import Derived.Test.YtipmkddcdnbihaaBk7
/- A table's Copy: walked. -/
namespace Go.Proofs.Ytipmkddcdnbihaa.Tbl
open Go.RowKit Base Step Vec Shape Erase
open Bk (drop_at take_at set_mid)
/-- Whoever stands in blocks of its own is read beside a table's own block. -/
theorem Stood.ok3 {w W : World} {o : Obj} {g : Nat} {cs : Array Value} {f : Nat × Nat} (h : Stood w W o) (hg : W.heap[g]? = some (.cells cs 194 f)) : objS.ok (erase W g) o := by
  have hrows : (Sh.sl rowS).ok (erase W g) (pA o, pN o, pC o, rows o) := by
    refine ok_own (W := W) (e := rowS) h.prow (by decide) h.len (fun r hr => ?_) (fun a v hb hc => cell_erase hc (own_not h.prow (by decide) hb) fun e => ?_) (own_max h.prow)
    · obtain ⟨hn, hl, hx⟩ := h.each r hr
      refine ok_own (W := W) (e := plS) hn (by decide) hl (fun x hxm => hx x hxm _) (fun a v hb hc => cell_erase hc (own_not hn (by decide) hb) fun e => ?_) (own_max hn)
      refine hn.ne hg (by decide) ?_
      cases hA : r.1 with
      | none => rw [hA] at hb; simp at hb
      | some ad =>
        rw [hA] at hb
        simp at hb
        show Value.ownBlock (.slice r.1 _ _) = some g
        rw [hA, ← e, ← hb]
        rfl
    · refine h.prow.ne hg (by decide) ?_
      cases hA : pA o with
      | none => rw [hA] at hb; simp at hb
      | some ad =>
        rw [hA] at hb
        simp at hb
        rw [← e, ← hb]
        rfl
  have hall : (Lit.int .u32 o.1).wf = true ∧ o.2.1.size ≤ maxLen ∧ planS.ok (erase W g) o.2.2.1 ∧ (Sh.sl rowS).ok (erase W g) (pA o, pN o, pC o, rows o) ∧ True :=
    ⟨h.n, h.s, h.p _, hrows, trivial⟩
  exact hall
theorem new_objs3 {W : World} {S : Nat → Prop} {g : Nat} {cs : Array Value} {f : Nat × Nat} {A : Option Addr} {n c : Nat} {objs : List Obj} (hg : W.heap[g]? = some (.cells cs 194 f)) (ho : Own W S 196 6 (.slice A n c) n (cellsL objS objs)) (hl : objs.length = n) (hx : ∀ x ∈ objs, objS.ok (erase W g) x) : (Sh.sl objS).ok (erase W g) (A, n, c, objs) :=
  ok_own (W := W) ho (by decide) hl hx (fun a v hb hc => cell_erase hc (own_not ho (by decide) hb) fun e => ho.ne hg (by decide) (by
    rcases A with _ | ad
    · simp at hb
    · simp at hb
      rw [← e, ← hb]
      rfl)) (own_max ho)
theorem Stood.from {w0 w W : World} {o : Obj} (h : Stood w W o) (he : w0.heap.size ≤ w.heap.size) : Stood w0 W o :=
  ⟨h.n, h.s, h.p, h.len, h.prow.mono fun _ _ k => Nat.le_trans he k, fun r hr => ⟨(h.each r hr).1.mono fun _ _ k => Nat.le_trans he k, (h.each r hr).2⟩⟩
theorem Copied.view_ {w W : World} {o o' : Obj} (h : Copied w W o o') : view o' = view o := by
  have hr : (rows o').map rP = (rows o).map rP := by
    apply List.ext_getElem?
    intro i
    rw [List.getElem?_map, List.getElem?_map]
    cases ho : (rows o)[i]? with
    | none =>
      have := List.getElem?_eq_none_iff.1 ho
      rw [List.getElem?_eq_none (by rw [h.rlen]; exact this)]
    | some r =>
      have hi := (List.getElem?_eq_some_iff.1 ho).1
      obtain ⟨r', hr'⟩ : ∃ r', (rows o')[i]? = some r' := ⟨_, List.getElem?_eq_getElem (by rw [h.rlen]; exact hi)⟩
      rw [hr', Option.map_some, Option.map_some, (h.alike i r r' ho hr').1.2]
  unfold view
  rw [h.num, h.name, h.plan, hr]
/-- A copy under way: k objects are copies. -/
structure CpSt (w W : World) (g3 sl nd : Nat) (nx ls : Int) (objs : List Obj) (A9 : Option Addr) (c9 k : Nat) (done : List Obj) : Prop where
  at3 : W.heap[g3]? = some (.cells #[.int .i64 sl, .int .i64 nd, .int .u32 nx, .int .u32 ls, .slice A9 objs.length c9] 194 (0, 0))
  row : Own W (fun i => w.heap.size ≤ i) 196 6 (.slice A9 objs.length c9) objs.length (cellsL objS (done ++ objs.drop k))
  len : done.length = k
  view : done.map Tbl.view = (objs.take k).map Tbl.view
  stood : ∀ o ∈ done, Stood w W o
  ext : Ext w W
set_option maxRecDepth 100000 in
set_option maxHeartbeats 8000000 in
theorem copy_calls (gt sl nd : Nat) (t : Tb) (w : World) (h : TbAt w gt sl nd t) (hn : t.n ≤ 1099511627776) (hs : ∀ ob ∈ t.objs, Small ob) :
    Calls Try.prog 92 #[.pointer (some ⟨gt, 0, none⟩)] w fun e w' => ∃ t', e = .returned (.pointer (some ⟨w.heap.size, 0, none⟩)) ∧ Ext w w' ∧ TbAt w' w.heap.size sl nd t' ∧ t'.nx = t.nx ∧ t'.ls = t.ls ∧ t'.n = t.n ∧ t'.objs.map view = t.objs.map view := by
  obtain ⟨nx, ls, A, n, c, objs⟩ := t
  have hn : n ≤ 1099511627776 := hn
  have h : TblAt w gt sl nd nx ls A n c objs := h
  have hln : objs.length = n := (sl_len h.ok).1
  subst hln
  have H := Lib.hid h
  have HS : Hid (∀ ob ∈ objs, Small ob) := Lib.hid hs
  have t0 : w.cell? ⟨gt, 0, none⟩ = some (.int .i64 sl) := blk_cell (i := 0) h.at_ (Ext.refl _) rfl
  have t1 : w.cell? ⟨gt, 1, none⟩ = some (.int .i64 nd) := blk_cell (i := 1) h.at_ (Ext.refl _) rfl
  have t2 : w.cell? ⟨gt, 2, none⟩ = some (.int .u32 nx) := blk_cell (i := 2) h.at_ (Ext.refl _) rfl
  have t3 : w.cell? ⟨gt, 3, none⟩ = some (.int .u32 ls) := blk_cell (i := 3) h.at_ (Ext.refl _) rfl
  have t4 : w.cell? ⟨gt, 4, none⟩ = some (.slice A objs.length c) := blk_cell (i := 4) h.at_ (Ext.refl _) rfl
  have e1 := Ext.new w (.cells #[.int .i64 0, .int .i64 0, .int .u32 0, .int .u32 0, .slice none 0 0] 194)
  clear h hs
  go_enter Try.func92, Try.ntmps92
  go_upto_region 4 with (refine RowSt.wpList_put 194 _ _ rfl rfl rfl w.heap.size #[.int .i64 sl, .int .i64 nd, .int .u32 nx, .int .u32 ls, .slice A objs.length c] rfl rfl 194 _ (at_new _ _) (by kernel_rfl) rfl (by simp [Value.oneCell']) ?_; intro w1 hb1 hc1)
  have E1 := Lib.hid (e1.chg hc1 (fun q k => by have k : q = w.heap.size := k; omega))
  have H1 := Lib.hid (H.out.ext E1.out)
  have B1 := Lib.hid hb1
  have s4 : w1.cell? ⟨gt, 4, none⟩ = some (.slice A objs.length c) := blk_cell (i := 4) H1.out.at_ (Ext.refl _) rfl
  clear t0 t1 t2 t3 t4 e1 hb1 hc1
  go_wp2_with fail
  refine (Clones.cloneObj A objs.length c (cellsL objS objs) w1 (by rw [cellsL_length]; rfl) (fun k => by have h1 := (sl_len H.out.ok).2.1; have h2 := (sl_len H.out.ok).2.2.2 k; omega) (fun ad' ha j u hu => ok_cells (Sh.ok_off H1.out.ok) (by decide) ad' ha j u hu) (cellsL_one_ _ _) (by omega)).mono ?_
  rintro e w2 ⟨he2, A9, c9, rfl, ho9⟩
  have B2 := Lib.hid (he2.at_ B1.out)
  have E2 := Lib.hid (E1.out.trans he2)
  have f4 : w2.frozen? ⟨w.heap.size, 4, none⟩ = false := Pack.free_of B2.out 4
  have f5 : w2.cell? ⟨w.heap.size, 4, none⟩ = some (.slice A objs.length c) := blk_cell (i := 4) B2.out (Ext.refl _) rfl
  have hlt1 : w.heap.size < w1.heap.size := Pack.lt_of_at B1.out
  have HO9 := Lib.hid ho9
  have H2 := Lib.hid (H1.out.ext he2)
  clear he2 ho9 s4
  go_upto_region 5 with fail
  have hs3 := set_blk (w := w2) (i := 4) B2.out (.slice A9 objs.length c9)
  have hc3 : Chg (fun i => i = w.heap.size) w2 (w2.setCell ⟨w.heap.size, 4, none⟩ (.slice A9 objs.length c9)) := (Chg.refl (fun i => i = w.heap.size) w2).setCell (p := ⟨w.heap.size, 4, none⟩) rfl _
  generalize w2.setCell ⟨w.heap.size, 4, none⟩ (.slice A9 objs.length c9) = w3 at *
  have HC0 : Hid (CpSt w w3 w.heap.size sl nd nx ls objs A9 c9 0 []) := Lib.hid ⟨by simpa using hs3, (HO9.out.chg hc3 fun i hi e => by have hi : w1.heap.size ≤ i := hi; have e : i = w.heap.size := e; omega).mono fun i _ (k : w1.heap.size ≤ i) => by omega, rfl, rfl, fun o k => (by cases k), E2.out.chg hc3 fun i (k : i = w.heap.size) => by omega⟩
  have q4 : w3.cell? ⟨w.heap.size, 4, none⟩ = some (.slice A9 objs.length c9) := blk_cell (i := 4) HC0.out.at3 (Ext.refl _) rfl
  clear hs3 hc3 f4 f5
  generalize hg3 : w.heap.size = g3 at *
  go_wp2_with fail
  clear q4
  go_loopg [19] objs.length (fun left i wr => ∃ (k : Nat) (done : List Obj), k ≤ objs.length ∧ left = objs.length - k ∧ i = .int .i64 k ∧ Hid (CpSt w wr g3 sl nd nx ls objs A9 c9 k done))
  case atStart => exact ⟨0, [], Nat.zero_le _, rfl, rfl, HC0⟩
  case round =>
    clear HC0
    obtain ⟨k, done, hk, rfl, rfl, HC⟩ := hrel
    by_cases hlt : k < objs.length
    · obtain ⟨ob, hob⟩ : ∃ ob, objs[k]? = some ob := ⟨_, List.getElem?_eq_getElem hlt⟩
      have hrow := HC.out.row
      rw [drop_at hob] at hrow
      rcases A9 with _ | ad9
      · have := Splice.own_none hrow
        omega
      obtain ⟨g9, cur9, rfl, hg9, hnc9, hcm9, hcs9, hcx9, hS9, hl9⟩ := Splice.blk_own hrow
      have hobk : objS.ok wr ob := Sh.ok_ext ((Ext.refl w).trans HC.out.ext) _ _ (sl_each (Sh.ok_off H.out.ok) hob)
      have hsm := HS.out ob (List.mem_of_getElem? hob)
      have hcx : ∀ j v, (objC ob)[j]? = some v → wr.cell? ⟨g9, k * 6 + j, none⟩ = some v := fun j v hv => by
        have h6 : j < 6 := by have := (List.getElem?_eq_some_iff.1 hv).1; simpa using this
        obtain ⟨ad, h1, h2⟩ := own_cell hrow (j := k * 6 + j) (u := v) (by rw [show k * 6 + j = k * objS.size + j from rfl, cellsL_get (app_at HC.out.len) h6]; exact hv)
        cases h1
        rw [Splice.add_zero_] at h2
        simpa using h2
      have HOBK := Lib.hid hobk
      have HOB := Lib.hid hob
      have HSM := Lib.hid hsm
      have HG9 := Lib.hid hg9
      have HROW := Lib.hid hrow
      have q4 : ∀ W, Ext wr.drew W → W.cell? ⟨g3, 4, none⟩ = some (.slice (some ⟨g9, 0, none⟩) objs.length c9) := fun W hW => blk_cell (i := 4) HC.out.at3 (drew_ext hW) rfl
      have x0 : ∀ W, Ext wr.drew W → W.cell? ⟨g9, k * 6, none⟩ = some (.int .u32 (num ob)) := fun W hW => (drew_ext hW).cell_ (hcx 0 _ rfl)
      have x1 : ∀ W, Ext wr.drew W → W.cell? ⟨g9, k * 6 + 1, none⟩ = some (.string (name ob)) := fun W hW => (drew_ext hW).cell_ (hcx 1 _ rfl)
      have x2 : ∀ W, Ext wr.drew W → W.cell? ⟨g9, k * 6 + 2, none⟩ = some (.int .i64 (plan ob).1) := fun W hW => (drew_ext hW).cell_ (hcx 2 _ rfl)
      have x3 : ∀ W, Ext wr.drew W → W.cell? ⟨g9, k * 6 + 3, none⟩ = some (.int .i64 (plan ob).2.1) := fun W hW => (drew_ext hW).cell_ (hcx 3 _ rfl)
      have x4 : ∀ W, Ext wr.drew W → W.cell? ⟨g9, k * 6 + 4, none⟩ = some (.int .i64 (plan ob).2.2.1) := fun W hW => (drew_ext hW).cell_ (hcx 4 _ rfl)
      have x5 : ∀ W, Ext wr.drew W → W.cell? ⟨g9, k * 6 + 5, none⟩ = some (.slice (pA ob) (pN ob) (pC ob)) := fun W hW => (drew_ext hW).cell_ (hcx 5 _ rfl)
      have hki : ((k : Nat) : Int) < ((objs.length : Nat) : Int) := by omega
      clear hrow hg9 hcx9 hl9 hobk hob hsm hcx
      go_upto_region 8 with fail
      have hsC : (copL wr ob).St Ext := copL_st
      refine Lex.wp_region_u [0, 1, 2, 3, 4, 5, 6, 7, 8, 9] [10] [(8, copL wr ob)] (by kernel_rfl) (by kernel_rfl) (by repeat (first | exact Lex.st_nil | refine Lex.st_cons (by first | exact Lex.nums_st | exact Lex.const_st | exact Lex.such_st | exact Lex.row_st | exact Lex.rowE_st | exact Lex.litR_st | assumption) ?_)) ?_; simp only [Lex.pick, List.getElem?_cons_succ, List.getElem?_cons_zero, List.map_cons, List.map_nil]
      repeat (first | (refine Lex.lexU_skip (by rfl) ?_; simp only [Act.put, List.setIfInBounds_toArray, List.set_cons_zero, List.set_cons_succ]) | (refine Lex.lexU_still (by rfl) (by rfl) (by first | exact Base.Ext.refl | exact Lex.Fill.refl) ?_; apply Exists.intro; refine ⟨fun W hW => ?_, ?_⟩; (have hE := Lex.ext_of_cls hW.1; have hE2 := Lex.ext_drew hE; clear hW; go_simp; try with_reducible rfl); simp only [Act.put, List.setIfInBounds_toArray, List.set_cons_zero, List.set_cons_succ]))
      refine Lex.lexU_loose (by rfl) (by rfl) (fun W hW => ?_) ?_
      · have hE := Lex.ext_drew (Lex.ext_of_cls hW.1)
        clear hW
        go_simp
        refine (copied_calls ob _ (Sh.ok_ext hE _ _ HOBK.out) HSM.out.1 HSM.out.2).mono ?_
        rintro e w8 ⟨o', rfl, hcp⟩
        refine ⟨_, rfl, ⟨pA o', pC o', ?_⟩, hcp.ext, o', rfl, hcp.from hE⟩
        show objV o' = _
        rw [← hcp.num, ← hcp.name, ← hcp.plan, ← hcp.len]
      rintro v ⟨A8, c8, rfl⟩
      simp only [Act.put, List.setIfInBounds_toArray, List.set_cons_zero, List.set_cons_succ]
      repeat (first | (refine Lex.lexU_skip (by rfl) ?_; simp only [Act.put, List.setIfInBounds_toArray, List.set_cons_zero, List.set_cons_succ]) | (refine Lex.lexU_still (by rfl) (by rfl) (by first | exact Base.Ext.refl | exact Lex.Fill.refl) ?_; apply Exists.intro; refine ⟨fun W hW => ?_, ?_⟩; (have hE := Lex.ext_of_cls hW.1; have hE2 := Lex.ext_drew hE; clear hW; go_simp; try with_reducible rfl); simp only [Act.put, List.setIfInBounds_toArray, List.set_cons_zero, List.set_cons_succ]))
      refine Lex.lexU_nil (fun W hW => ?_)
      have hE := Lib.hid (Lex.ext_drew hW.1)
      obtain ⟨o', ho', hcp⟩ := (hW.2 8).2 rfl
      clear hW q4 x0 x1 x2 x3 x4 x5
      have hoC := Value.agg.inj ho'
      have HGW := Lib.hid (hE.out.at_ HG9.out)
      have hk6 : k * 6 + 6 ≤ c9 * 6 := by omega
      refine Splice.wpList_storeB 196 _ _ rfl rfl rfl g9 (k * 6) #[.int .u32 (num ob), .string (name ob), .int .i64 (plan ob).1, .int .i64 (plan ob).2.1, .int .i64 (plan ob).2.2.1, .slice A8 (pN ob) c8] rfl rfl 196 cur9 HGW.out (by kernel_rfl) (by rw [hcs9]; exact hk6) (by simp [Value.oneCell']) ?_
      intro w12 hg12 hc12
      rw [hoC] at hg12
      have hne : g3 ≠ g9 := fun e => by
        have h1 := HC.out.at3
        rw [e, HG9.out] at h1
        have h2 := Option.some.inj h1
        injection h2 with _ h3
        exact absurd h3 (by decide)
      have hset : (done ++ objs.drop k).set k o' = (done ++ [o']) ++ objs.drop (k + 1) := by rw [drop_at HOB.out, set_mid HC.out.len]
      have hput : Splice.putAt (cellsL objS (done ++ objs.drop k)) (k * 6) (objC o') = cellsL objS ((done ++ [o']) ++ objs.drop (k + 1)) := by
        rw [← hset]
        exact cellsL_put (e := objS) (i := k) (x := o') (by rw [List.length_append, HC.out.len, List.length_drop]; omega)
      have hrowW := HC.out.row.extNew hE.out
      have hown12 : Own w12 (fun i => w.heap.size ≤ i) 196 6 (.slice (some ⟨g9, 0, none⟩) objs.length c9) objs.length (cellsL objS ((done ++ [o']) ++ objs.drop (k + 1))) := by
        have := Splice.own_store (o := k * 6) hrowW HGW.out (by show k * 6 + 6 ≤ objs.length * 6; omega) hg12
        rw [← hput]
        exact this
      have hkd : ∀ i, i = g9 → i < W.heap.size → ∃ c e f, W.heap[i]? = some (.cells c e f) ∧ e ≠ 186 ∧ e ≠ 80 := fun i hi _ => by
        subst hi
        exact ⟨_, _, _, HGW.out, by decide, by decide⟩
      have HC1 : Hid (CpSt w w12 g3 sl nd nx ls objs (some ⟨g9, 0, none⟩) c9 (k + 1) (done ++ [o'])) := Lib.hid ⟨hc12.at_ (hE.out.at_ HC.out.at3) hne, hown12, by rw [List.length_append, HC.out.len]; rfl, by
          rw [take_at HOB.out, List.map_append, List.map_append, HC.out.view]
          simp [hcp.view_], fun p hp => by
          rcases List.mem_append.1 hp with hp | hp
          · exact ((HC.out.stood p hp).ext hE.out).kind hc12 hkd
          · obtain rfl : p = o' := by simpa using hp
            exact ((hcp.stood HOBK.out).from HC.out.ext.size).kind hc12 hkd, (HC.out.ext.trans hE.out).chg hc12 fun i hi => by have hi : i = g9 := hi; rw [hi]; exact hS9⟩
      clear HC HROW hg12 hc12 hne hset hput hrowW hown12 hkd hcp ho' hoC HGW HG9 hS9
      try simp only [Lex.onlyN]
      go_wp2_with fail
      try simp only [Lex.onlyN]
      go_wp2_with fail
      go_roundg (objs.length - (k + 1))
      case measure => omega
      case rel => exact ⟨k + 1, _, by omega, rfl, by first | rfl | go_num, HC1⟩
    · obtain rfl : k = objs.length := by omega
      go_wp2_with fail
      go_ret
      have hd : objs.drop objs.length = [] := List.drop_length
      have hrow := HC.out.row
      rw [hd, List.append_nil] at hrow
      subst hg3
      exact ⟨⟨nx, ls, A9, objs.length, c9, done⟩, rfl, HC.out.ext, ⟨HC.out.at3, new_objs3 HC.out.at3 hrow HC.out.len fun x hx => (HC.out.stood x hx).ok3 HC.out.at3⟩, rfl, rfl, rfl, by
        have := HC.out.view
        rw [List.take_length] at this
        exact this⟩
end Go.Proofs.Ytipmkddcdnbihaa.Tbl
/- A book: its table and its diary; what a copy of its table is; Write, walked. -/
namespace Go.Proofs.Ytipmkddcdnbihaa.Bk
open Go.RowKit Base Step Vec Shape Erase Tbl
open Diary (Or2)
open DiaryP (records frame)
theorem code_eq {sl nd : Nat} {t r : Tb} {o : Tbl.Op} (h : Tbl.Both t r) : applyC sl nd t o = rApplyC sl nd r o := by
  unfold applyC rApplyC
  by_cases h1 : o.kind = 1
  · rw [if_pos h1, if_pos h1, h.eqv.nx]
  rw [if_neg h1, if_neg h1]
  by_cases h2 : o.kind = 2
  · rw [if_pos h2, if_pos h2]
    have := commitC_eq (sl := sl) (nd := nd) (o := o) (A := o.A) (c := o.cap) (l := o.rows) h rfl
    exact this
  rw [if_neg h2, if_neg h2]
  by_cases h3 : o.kind = 3
  · rw [if_pos h3, if_pos h3]
    unfold removeC rRemoveC
    rw [← h.eqv.name]
    rcases there_name h.sorted o.name with ⟨k1, k2⟩ | ⟨k1, k2, _⟩
    · rw [k1, k2]; rfl
    · rw [k1, k2, if_pos rfl, if_neg (by omega)]
  rw [if_neg h3, if_neg h3]
  by_cases h4 : o.kind = 4
  · rw [if_pos h4, if_pos h4]
    exact moveC_eq h
  · rw [if_neg h4, if_neg h4]
theorem tb_objs {w : World} {gt sl nd : Nat} {t : Tb} (h : TbAt w gt sl nd t) : t.objs.length = t.n ∧ (∀ ob ∈ t.objs, (rows ob).length = pN ob) ∧ ∀ ob ∈ t.objs, ∀ r ∈ rows ob, (rP r).length = rN r := by
  have hk := Sh.ok_off h.ok
  refine ⟨(sl_len hk).1, fun ob hob => ?_, objs_rows hk⟩
  obtain ⟨i, hi, hix⟩ := List.getElem_of_mem hob
  exact (sl_len (obj_ok (sl_each hk (i := i) (by rw [List.getElem?_eq_getElem hi, hix]))).2.2.2).1
/-- What is known of a table is known of its copy. -/
theorem good_copy {sl nd g g' : Nat} {t t' r : Tb} {W W' : World} (h : Tbl.Good sl nd t r) (hT : TbAt W g sl nd t) (hT' : TbAt W' g' sl nd t') (hx : t'.nx = t.nx) (hl : t'.ls = t.ls) (hv : t'.objs.map view = t.objs.map view) : Tbl.Good sl nd t' r := by
  obtain ⟨a1, a2, a3⟩ := tb_objs hT
  obtain ⟨b1, b2, b3⟩ := tb_objs hT'
  have hat : ∀ o' ∈ t'.objs, ∃ o ∈ t.objs, view o = view o' := fun o' ho' => by
    obtain ⟨i, hi, hix⟩ := List.getElem_of_mem ho'
    obtain ⟨o, ho, he⟩ := view_at hv (i := i) (a := o') (by rw [List.getElem?_eq_getElem hi, hix])
    exact ⟨o, List.mem_of_getElem? ho, he.symm⟩
  have hft : ∀ o' ∈ t'.objs, FineO nd sl o' := fun o' ho' => by
    obtain ⟨o, ho, he⟩ := hat o' ho'
    exact fine_view (h.ft o ho) he (b2 o' ho') (a3 o ho) (b3 o' ho')
  have hnum : t'.objs.map num = t.objs.map num := by
    have e : ∀ l : List Tbl.Obj, l.map num = (l.map view).map (·.1) := fun l => by rw [List.map_map]; rfl
    rw [e, e, hv]
  have hlen : t'.objs.length = t.objs.length := by have := congrArg List.length hv; simpa using this
  refine ⟨⟨⟨hx.trans h.both.eqv.nx, hl.trans h.both.eqv.ls, hv.trans h.both.eqv.objs⟩, sorted_view hv.symm h.both.sorted, b1, h.both.rn, b2, h.both.rp⟩, ?_, hft, h.fr, by rw [hl]; exact h.l0, by rw [hl]; exact h.l1⟩
  refine ⟨by rw [hlen]; exact h.inv.few, by rw [hx]; exact h.inv.x0, by rw [hx]; exact h.inv.x1, fun o' ho' => ?_, by rw [hnum]; exact h.inv.apart, fun g hg => (by cases hg)⟩
  obtain ⟨o, ho, he⟩ := hat o' ho'
  obtain ⟨c1, c2, c3⟩ := h.inv.each o ho
  refine ⟨by rw [← view_num he, hl]; exact c1, by rw [← rows_len he]; exact c2, fun r' hr' => ⟨((hft o' ho').each r' hr').1, ?_⟩⟩
  have hm : rP r' ∈ (rows o).map rP := by rw [view_rows he]; exact List.mem_map_of_mem hr'
  obtain ⟨r0, hr0, hre⟩ := List.mem_map.1 hm
  rw [← hre]
  exact (c3 r0 hr0).2
/-- What Apply asks of a table. -/
theorem Good.asks {sl nd : Nat} {t r : Tb} (h : Tbl.Good sl nd t r) (hsl : sl ≤ 24) : t.n ≤ 1099511627776 ∧ (∀ ob ∈ t.objs, Small ob) ∧ (∀ ob ∈ t.objs, ∀ r ∈ rows ob, rN r = sl) ∧ 0 ≤ t.nx ∧ t.nx ≤ 4294967295 :=
  ⟨by rw [← h.both.tn]; have := h.inv.few; omega, fun ob hob => (h.ft ob hob).small hsl, fun ob hob r hr => ((h.ft ob hob).each r hr).1, by have := h.inv.x0; omega, h.inv.x1⟩
/-- A book: its block gk, its diary gd on the tape gp, its table gt. -/
structure BkAt (w : World) (gk gd gt gp sl nd : Nat) (t : Tb) (St Sd : Nat → Prop) (bs : List Int) (safe : Nat) (most : Int) (recs : List (List Int)) (m : Nat) : Prop where
  at_ : w.heap[gk]? = some (.cells #[.pointer (some ⟨gd, 0, none⟩), .pointer (some ⟨gt, 0, none⟩), .int .i64 sl, .int .i64 nd] 179 (0, 0))
  b : Diary.Both w St Sd gp gd bs safe most recs m
  tb : TbAt w gt sl nd t
/-- A copy of a table, somewhere behind N. -/
def cpyL (N sl nd : Nat) (t : Tb) : Lex.Loose := ⟨fun v => ∃ g, v = .pointer (some ⟨g, 0, none⟩), fun v W => ∀ g, v = .pointer (some ⟨g, 0, none⟩) → N ≤ g ∧ ∃ t', TbAt W g sl nd t' ∧ t'.nx = t.nx ∧ t'.ls = t.ls ∧ t'.objs.map view = t.objs.map view⟩
theorem cpyL_st {N sl nd : Nat} {t : Tb} : (cpyL N sl nd t).St Ext := fun _ _ _ h he g e => by
  obtain ⟨h1, t', h2, h3⟩ := h g e
  exact ⟨h1, t', h2.ext he, h3⟩
/-- An operation's bytes, in new blocks. -/
def opbL (w0 : World) (o : Tbl.Op) : Lex.Loose := ⟨fun v => ∃ A c, v = .slice A (opB o).length c, fun v W => ∀ A c, v = .slice A (opB o).length c → New w0 W 5 1 A (opB o).length c (nums .u8 (opB o))⟩
theorem opbL_st {w0 : World} {o : Tbl.Op} : (opbL w0 o).St Ext := fun _ _ _ h he A c e => (h A c e).extNew he
section
variable {w W : World} {gk gd gt gp sl nd : Nat} {t : Tb} {St Sd : Nat → Prop} {bs : List Int} {safe : Nat} {most : Int} {recs : List (List Int)} {m : Nat}
theorem BkAt.ext (h : BkAt w gk gd gt gp sl nd t St Sd bs safe most recs m) (he : Ext w W) : BkAt W gk gd gt gp sl nd t St Sd bs safe most recs m := ⟨he.at_ h.at_, h.b.ext he, h.tb.ext he⟩
theorem pl_not {g : Nat} {cs : Array Value} {T : TypeId} {f : Nat × Nat} (h : w.heap[g]? = some (.cells cs T f)) (hT : plainT T = false) : ¬ Pl w g := fun ⟨cs', T', f', h1, h2⟩ => by
  rw [h] at h1
  cases h1
  rw [hT] at h2
  cases h2
end
set_option maxRecDepth 100000 in
set_option maxHeartbeats 4000000 in
theorem write_calls (gk gd gt gp sl nd : Nat) (t r : Tb) (St Sd : Nat → Prop) (bs : List Int) (safe : Nat) (most : Int) (recs : List (List Int)) (m : Nat) (o : Tbl.Op) (w : World) (h : BkAt w gk gd gt gp sl nd t St Sd bs safe most recs m) (hg : Tbl.Good sl nd t r) (ho : OpAt w o) (hsl : sl ≤ 24) (hnd : nd ≤ 32) (hbs : bs.length ≤ 1099511627776) (hrc : recs.length ≤ 1099511627776) :
    Calls Try.prog 41 #[.pointer (some ⟨gk, 0, none⟩), opV o] w fun e w' => ∃ code, e = .returned (.int .i64 code) ∧ (applyC sl nd t o ≠ 0 → code = applyC sl nd t o ∧ Ext w w') ∧
      (applyC sl nd t o = 0 → Fit sl o ∧ ((most < (bs.length : Int) + (20 + (opB o).length : Nat) ∧ code = 20 ∧ Ext w w') ∨ ((bs.length : Int) + (20 + (opB o).length : Nat) ≤ most ∧ code = 0 ∧
        ∃ St' Sd', BkAt w' gk gd gt gp sl nd t St' Sd' (bs ++ frame ((recs.length : Int) + 1) (opB o)) safe most (recs ++ [opB o]) m ∧ Step (Or2 St Sd) (Or2 St' Sd') w w'))) := by
  obtain ⟨Q, hQ⟩ : ∃ Q : Ending → World → Prop, Q = fun e w' => ∃ code, e = .returned (.int .i64 code) ∧ (applyC sl nd t o ≠ 0 → code = applyC sl nd t o ∧ Ext w w') ∧
      (applyC sl nd t o = 0 → Fit sl o ∧ ((most < (bs.length : Int) + (20 + (opB o).length : Nat) ∧ code = 20 ∧ Ext w w') ∨ ((bs.length : Int) + (20 + (opB o).length : Nat) ≤ most ∧ code = 0 ∧
        ∃ St' Sd', BkAt w' gk gd gt gp sl nd t St' Sd' (bs ++ frame ((recs.length : Int) + 1) (opB o)) safe most (recs ++ [opB o]) m ∧ Step (Or2 St Sd) (Or2 St' Sd') w w'))) := ⟨_, rfl⟩
  have HQ := Lib.hid hQ
  rw [← hQ]
  clear hQ
  have H := Lib.hid h
  have HG := Lib.hid hg
  have HO := Lib.hid ho
  have hb1 := at_new w (.cells (opC o) 82)
  have he1 := Ext.new w (.cells (opC o) 82)
  clear h hg ho
  go_enter Try.func41, Try.ntmps41
  go_upto_region 1 with fail
  generalize w.alloc (.cells (opC o) 82) = w1 at *
  have HE1 := Lib.hid he1
  have HB1 := Lib.hid hb1
  have H1 := Lib.hid (H.out.ext he1)
  obtain ⟨bo, hbo⟩ : ∃ bo, bo = w.heap.size := ⟨_, rfl⟩
  have HBO := Lib.hid hbo
  rw [← hbo] at HB1 ⊢
  clear hb1 he1 hbo
  go_upto_region 3 with fail
  have k1 : ∀ W, Ext w1.drew W → W.cell? ⟨gk, 1, none⟩ = some (.pointer (some ⟨gt, 0, none⟩)) := fun W hW => blk_cell (i := 1) H1.out.at_ (drew_ext hW) rfl
  have hsC : (cpyL w1.heap.size sl nd t).St Ext := cpyL_st
  refine Lex.wp_region_u [0, 1, 2, 3, 4, 5] [6, 7] [(4, cpyL w1.heap.size sl nd t)] (by kernel_rfl) (by kernel_rfl) (by repeat (first | exact Lex.st_nil | refine Lex.st_cons (by first | exact Lex.nums_st | exact Lex.const_st | exact Lex.such_st | exact Lex.row_st | exact Lex.rowE_st | exact Lex.litR_st | assumption) ?_)) ?_; simp only [Lex.pick, List.getElem?_cons_succ, List.getElem?_cons_zero, List.map_cons, List.map_nil]
  clear hsC
  repeat (first | (refine Lex.lexU_skip (by rfl) ?_; simp only [Act.put, List.setIfInBounds_toArray, List.set_cons_zero, List.set_cons_succ]) | (refine Lex.lexU_still (by rfl) (by rfl) (by first | exact Base.Ext.refl | exact Lex.Fill.refl) ?_; apply Exists.intro; refine ⟨fun W hW => ?_, ?_⟩; (have hE := Lex.ext_of_cls hW.1; have hE2 := Lex.ext_drew hE; clear hW; go_simp; try with_reducible rfl); simp only [Act.put, List.setIfInBounds_toArray, List.set_cons_zero, List.set_cons_succ]))
  refine Lex.lexU_loose (by rfl) (by rfl) (fun W hW => ?_) ?_
  · have hE := Lex.ext_drew (Lex.ext_of_cls hW.1)
    clear hW
    go_simp
    refine (copy_calls gt sl nd t _ (H1.out.tb.ext hE) (Good.asks HG.out hsl).1 (Good.asks HG.out hsl).2.1).mono ?_
    rintro e w2 ⟨t', rfl, he2, ht', hx', hl', hn', hv'⟩
    exact ⟨_, rfl, ⟨_, rfl⟩, he2, fun g e => by cases e; exact ⟨hE.size, t', ht', hx', hl', hv'⟩⟩
  rintro v ⟨gc, rfl⟩
  simp only [Act.put, List.setIfInBounds_toArray, List.set_cons_zero, List.set_cons_succ]
  refine Lex.lexU_still (by rfl) (by rfl) Ext.refl ⟨opV o, fun W hW => ?_, ?_⟩
  · have hE := Lex.ext_drew (Lex.ext_of_cls hW.1)
    clear hW
    exact exec_load_row 82 (.tmp 3) rfl bo rfl 82 (opC o) (0, 0) _ (hE.at_ HB1.out) Try.underlying82 rfl (by kernel_rfl)
  simp only [Act.put, List.setIfInBounds_toArray, List.set_cons_zero, List.set_cons_succ]
  refine Lex.lexU_nil (fun W hW => ?_)
  have hE := Lib.hid (Lex.ext_drew hW.1)
  obtain ⟨hgc, t', ht', hx', hl', hv'⟩ := (hW.2 4).2 rfl _ rfl
  have HGC := Lib.hid (good_copy HG.out H1.out.tb ht' hx' hl' hv')
  have HT := Lib.hid ht'
  have HGN := Lib.hid hgc
  clear hW k1 ht' hx' hl' hv' hgc
  go_wp2_with fail
  refine (apply_calls gc sl nd t' o W HT.out (Good.asks HGC.out hsl).1 hnd (Good.asks HGC.out hsl).2.1 (Good.asks HGC.out hsl).2.2.1 (HO.out.ext (HE1.out.trans hE.out)) (Good.asks HGC.out hsl).2.2.2.1 (Good.asks HGC.out hsl).2.2.2.2).mono ?_
  rintro e w3 ⟨rfl, hc3, t3, ht3, hr3⟩
  have hcode : applyC sl nd t' o = applyC sl nd t o := by rw [code_eq HGC.out.both, code_eq HG.out.both]
  have HFIT : Hid (applyC sl nd t o = 0 → Fit sl o) := Lib.hid fun h0 => fit_of HO.out HT.out HGC.out.ft hsl hnd (hcode.trans h0) hr3
  have HE3 : Hid (Ext w1 w3) := Lib.hid (hE.out.chg hc3 fun i hi => by have hi : i = gc := hi; rw [hi]; exact HGN.out)
  rw [hcode]
  clear hcode hc3 ht3 hr3 HT HGC HGN hE
  generalize hcd : applyC sl nd t o = code at *
  have HCD := Lib.hid hcd
  clear hcd
  by_cases h0 : code = 0
  · have hne : (code != 0) = false := by simp [h0]
    have H0 := Lib.hid h0
    have H3 := Lib.hid (H1.out.ext HE3.out)
    have HB3 := Lib.hid (HE3.out.at_ HB1.out)
    have hfit := HFIT.out h0
    have HFT := Lib.hid hfit
    have hol := opB_len hfit
    clear h0 hfit
    try simp only [Lex.onlyN]
    go_wp2_with fail
    try simp only [Lex.onlyN]
    go_upto_region 6 with fail
    have k0 : ∀ W, Ext w3.drew W → W.cell? ⟨gk, 0, none⟩ = some (.pointer (some ⟨gd, 0, none⟩)) := fun W hW => blk_cell (i := 0) H3.out.at_ (drew_ext hW) rfl
    have hsC : (opbL w3 o).St Ext := opbL_st
    refine Lex.wp_region_u [0, 1, 2, 3, 4, 5] [6, 7] [(5, opbL w3 o)] (by kernel_rfl) (by kernel_rfl) (by repeat (first | exact Lex.st_nil | refine Lex.st_cons (by first | exact Lex.nums_st | exact Lex.const_st | exact Lex.such_st | exact Lex.row_st | exact Lex.rowE_st | exact Lex.litR_st | assumption) ?_)) ?_; simp only [Lex.pick, List.getElem?_cons_succ, List.getElem?_cons_zero, List.map_cons, List.map_nil]
    clear hsC
    iterate 4 (first | (refine Lex.lexU_skip (by rfl) ?_; simp only [Act.put, List.setIfInBounds_toArray, List.set_cons_zero, List.set_cons_succ]) | (refine Lex.lexU_still (by rfl) (by rfl) (by first | exact Base.Ext.refl | exact Lex.Fill.refl) ?_; apply Exists.intro; refine ⟨fun W hW => ?_, ?_⟩; (have hE := Lex.ext_of_cls hW.1; have hE2 := Lex.ext_drew hE; clear hW; go_simp; try with_reducible rfl); simp only [Act.put, List.setIfInBounds_toArray, List.set_cons_zero, List.set_cons_succ]))
    refine Lex.lexU_still (by rfl) (by rfl) Ext.refl ⟨opV o, fun W hW => ?_, ?_⟩
    · have hE := Lex.ext_drew (Lex.ext_of_cls hW.1)
      clear hW
      exact exec_load_row 82 (.tmp 3) rfl bo rfl 82 (opC o) (0, 0) _ (hE.at_ HB3.out) Try.underlying82 rfl (by kernel_rfl)
    simp only [Act.put, List.setIfInBounds_toArray, List.set_cons_zero, List.set_cons_succ]
    refine Lex.lexU_loose (by rfl) (by rfl) (fun W hW => ?_) ?_
    · have hE := Lex.ext_drew (Lex.ext_of_cls hW.1)
      clear hW
      go_simp
      refine (op_calls o sl _ (HO.out.ext ((HE1.out.trans HE3.out).trans hE)) HFT.out hsl).mono ?_
      rintro e w5 ⟨he5, A, c, rfl, ho5⟩
      exact ⟨_, rfl, ⟨_, _, rfl⟩, he5, fun A c e => by cases e; exact ho5.mono fun i _ hi => Nat.le_trans hE.size hi⟩
    rintro v ⟨A5, c5, rfl⟩
    simp only [Act.put, List.setIfInBounds_toArray, List.set_cons_zero, List.set_cons_succ]
    refine Lex.lexU_nil (fun W hW => ?_)
    have hE := Lib.hid (Lex.ext_drew hW.1)
    have HO5 := Lib.hid ((hW.2 5).2 rfl _ _ rfl)
    clear hW k0
    have H5 := Lib.hid (H3.out.ext hE.out)
    obtain ⟨S1, hS1⟩ : ∃ S1 : Nat → Prop, S1 = fun i => St i ∧ Pl W i := ⟨_, rfl⟩
    obtain ⟨S2, hS2⟩ : ∃ S2 : Nat → Prop, S2 = fun i => Sd i ∧ Pl W i := ⟨_, rfl⟩
    have hbp := both_pl H5.out.b
    rw [← hS1, ← hS2] at hbp
    have HPL : Hid (∀ i, Or2 S1 S2 i → Or2 St Sd i ∧ Pl W i) := Lib.hid fun i hi => by
      rw [hS1, hS2] at hi
      rcases hi with hi | hi
      · exact ⟨.inl hi.1, hi.2⟩
      · exact ⟨.inr hi.1, hi.2⟩
    have HBP := Lib.hid hbp
    clear hbp hS1 hS2
    have hoff : Off S1 A5 (opB o).length := fun h0 ad ha hs => by
      subst ha
      have h1 : w3.heap.size ≤ ad.block := HO5.out.foot _ rfl
      have h2 := (HPL.out _ (.inl hs)).1
      rcases h2 with h2 | h2
      · have := H3.out.b.t.lt _ h2
        omega
      · have := H3.out.b.d.lt _ h2
        omega
    have HOFF := Lib.hid hoff
    clear hoff
    by_cases hfit : (bs.length : Int) + (20 + (opB o).length : Nat) ≤ most
    · have HFI := Lib.hid hfit
      go_wp2_with fail
      refine (Diary.write_calls S1 S2 gp gd bs safe most recs m W HBP.out A5 (opB o).length c5 (opB o) (HO5.out.rd (opB_wf o)) HOFF.out (by omega) hbs hrc HFI.out).mono ?_
      rintro e w6 ⟨rfl, St6, Sd6, hb6, hs6⟩
      have hk6 := hs6.chg.at_ H5.out.at_ fun k => pl_not H5.out.at_ (by decide) (HPL.out _ k).2
      have ht6 := tb_pl H5.out.tb hs6.chg fun i hi => (HPL.out i hi).2
      have HR : Hid (BkAt w6 gk gd gt gp sl nd t St6 Sd6 (bs ++ frame ((recs.length : Int) + 1) (opB o)) safe most (recs ++ [opB o]) m ∧ Step (Or2 St Sd) (Or2 St6 Sd6) w w6) := Lib.hid ⟨⟨hk6, hb6, ht6⟩, (HE1.out.trans (HE3.out.trans hE.out)).size |> fun hsz => ⟨Chg.trans (Below.chg (HE1.out.trans (HE3.out.trans hE.out))) (hs6.chg.mono fun i _ hi => (HPL.out i hi).1), fun i hi => (hs6.grow i hi).imp (fun k => (HPL.out i k).1) fun k => Nat.le_trans hsz k⟩⟩
      clear hb6 hs6 hk6 ht6
      try simp only [Lex.onlyN]
      go_wp2_with fail
      try simp only [Lex.onlyN]
      go_wp2_with fail
      rw [HQ.out]
      exact ⟨0, rfl, fun k => absurd H0.out k, fun _ => ⟨HFT.out, .inr ⟨HFI.out, rfl, St6, Sd6, HR.out.1, HR.out.2⟩⟩⟩
    · have HFI : Hid (most < (bs.length : Int) + (20 + (opB o).length : Nat)) := Lib.hid (by omega)
      clear hfit
      go_wp2_with fail
      refine (Diary.write_full S1 S2 gp gd bs safe most recs m W HBP.out A5 (opB o).length c5 (opB o) (HO5.out.rd (opB_wf o)) (by omega) hrc HFI.out).mono ?_
      rintro e w6 ⟨rfl, he6⟩
      have HE6 := Lib.hid (((HE1.out.trans HE3.out).trans hE.out).trans he6)
      clear he6
      try simp only [Lex.onlyN]
      go_wp2_with fail
      try simp only [Lex.onlyN]
      go_wp2_with fail
      rw [HQ.out]
      exact ⟨20, rfl, fun k => absurd H0.out k, fun _ => ⟨HFT.out, .inl ⟨HFI.out, rfl, HE6.out⟩⟩⟩
  · have hne : (code != 0) = true := by simp [h0]
    have H0 := Lib.hid h0
    clear h0
    try simp only [Lex.onlyN]
    go_wp2_with fail
    try simp only [Lex.onlyN]
    go_wp2_with fail
    rw [HQ.out]
    exact ⟨code, rfl, fun _ => ⟨rfl, HE1.out.trans HE3.out⟩, fun k => absurd k H0.out⟩
end Go.Proofs.Ytipmkddcdnbihaa.Bk
/- A book: Do, Len, Table, Open; walked. -/
namespace Go.Proofs.Ytipmkddcdnbihaa.Bk
open Go.RowKit Base Step Vec Shape Erase Tbl
open Diary (Or2)
open DiaryP (records frame)
set_option maxRecDepth 100000 in
set_option maxHeartbeats 4000000 in
theorem do_calls (gk gd gt gp sl nd : Nat) (t r : Tb) (St Sd : Nat → Prop) (bs : List Int) (safe : Nat) (most : Int) (recs : List (List Int)) (m : Nat) (o : Tbl.Op) (w : World) (h : BkAt w gk gd gt gp sl nd t St Sd bs safe most recs m) (hg : Tbl.Good sl nd t r) (ho : OpAt w o) (hsl : sl ≤ 24) (hnd : nd ≤ 32) (hbs : bs.length ≤ 1099511627776) (hrc : recs.length ≤ 1099511627776) (hpl : ∀ i, Or2 St Sd i → Pl w i) (hor : (Sh.sl rowS).ok (erase w gt) (o.A, o.n, o.cap, o.rows)) :
    Calls Try.prog 42 #[.pointer (some ⟨gk, 0, none⟩), opV o] w fun e w' => ∃ code, e = .returned (.int .i64 code) ∧ (applyC sl nd t o ≠ 0 → code = applyC sl nd t o ∧ Ext w w') ∧
      (applyC sl nd t o = 0 → Fit sl o ∧ ((most < (bs.length : Int) + (20 + (opB o).length : Nat) ∧ code = 20 ∧ Ext w w') ∨ ((bs.length : Int) + (20 + (opB o).length : Nat) ≤ most ∧ code = 0 ∧
        ∃ St' Sd' t' w0, BkAt w' gk gd gt gp sl nd t' St' Sd' (bs ++ frame ((recs.length : Int) + 1) (opB o)) (bs ++ frame ((recs.length : Int) + 1) (opB o)).length most (recs ++ [opB o]) (recs ++ [opB o]).length ∧ ApplyR sl nd t o w0 t' ∧
          Chg (fun i => Or2 St Sd i ∨ i = gt) w w' ∧ ∀ i, Or2 St' Sd' i → Or2 St Sd i ∨ w.heap.size ≤ i))) := by
  obtain ⟨Q, hQ⟩ : ∃ Q : Ending → World → Prop, Q = fun e w' => ∃ code, e = .returned (.int .i64 code) ∧ (applyC sl nd t o ≠ 0 → code = applyC sl nd t o ∧ Ext w w') ∧
      (applyC sl nd t o = 0 → Fit sl o ∧ ((most < (bs.length : Int) + (20 + (opB o).length : Nat) ∧ code = 20 ∧ Ext w w') ∨ ((bs.length : Int) + (20 + (opB o).length : Nat) ≤ most ∧ code = 0 ∧
        ∃ St' Sd' t' w0, BkAt w' gk gd gt gp sl nd t' St' Sd' (bs ++ frame ((recs.length : Int) + 1) (opB o)) (bs ++ frame ((recs.length : Int) + 1) (opB o)).length most (recs ++ [opB o]) (recs ++ [opB o]).length ∧ ApplyR sl nd t o w0 t' ∧
          Chg (fun i => Or2 St Sd i ∨ i = gt) w w' ∧ ∀ i, Or2 St' Sd' i → Or2 St Sd i ∨ w.heap.size ≤ i))) := ⟨_, rfl⟩
  have HQ := Lib.hid hQ
  rw [← hQ]
  clear hQ
  have H := Lib.hid h
  have HG := Lib.hid hg
  have HO := Lib.hid ho
  have HPW := Lib.hid hpl
  have HOR := Lib.hid hor
  have hb1 := at_new w (.cells (opC o) 82)
  have he1 := Ext.new w (.cells (opC o) 82)
  clear h hg ho hpl hor
  go_enter Try.func42, Try.ntmps42
  go_upto_region 1 with fail
  generalize w.alloc (.cells (opC o) 82) = w1 at *
  have HE1 := Lib.hid he1
  have HB1 := Lib.hid hb1
  have H1 := Lib.hid (H.out.ext he1)
  obtain ⟨bo, hbo⟩ : ∃ bo, bo = w.heap.size := ⟨_, rfl⟩
  have HBO := Lib.hid hbo
  rw [← hbo] at HB1 ⊢
  clear hb1 he1 hbo
  go_wp2_with (refine wpList_load_rowG rfl 82 _ rfl bo rfl 82 (opC o) (0, 0) _ HB1.out Try.underlying82 rfl (by kernel_rfl) ?_)
  refine (write_calls gk gd gt gp sl nd t r St Sd bs safe most recs m o w1 H1.out HG.out (HO.out.ext HE1.out) hsl hnd hbs hrc).mono ?_
  rintro e w2 ⟨code, rfl, hno, hyes⟩
  by_cases hcd : applyC sl nd t o = 0
  · obtain ⟨hfit, hyes⟩ := hyes hcd
    have HFT := Lib.hid hfit
    have HCD := Lib.hid hcd
    rcases hyes with ⟨hfull, rfl, he2⟩ | ⟨hroom, rfl, St2, Sd2, hb2, hs2⟩
    · have HE := Lib.hid (HE1.out.trans he2)
      have HFU := Lib.hid hfull
      clear hno he2 hfull hfit hcd
      go_wp2_with fail
      rw [HQ.out]
      exact ⟨20, rfl, fun k => absurd HCD.out k, fun _ => ⟨HFT.out, .inl ⟨HFU.out, rfl, HE.out⟩⟩⟩
    · have HB2 := Lib.hid hb2
      have HS2 := Lib.hid hs2
      have HRO := Lib.hid hroom
      have HOB : Hid (w2.heap[bo]? = some (.cells (opC o) 82 (0, 0))) := Lib.hid (hs2.chg.at_ HB1.out fun k => by
        rcases k with k | k
        · have := H.out.b.t.lt _ k
          have := HBO.out
          omega
        · have := H.out.b.d.lt _ k
          have := HBO.out
          omega)
      have hk0 : w2.cell? ⟨gk, 0, none⟩ = some (.pointer (some ⟨gd, 0, none⟩)) := blk_cell (i := 0) hb2.at_ (Ext.refl _) rfl
      clear hno hb2 hs2 hroom hfit hcd
      obtain ⟨S1, hS1⟩ : ∃ S1 : Nat → Prop, S1 = fun i => St2 i ∧ Pl w2 i := ⟨_, rfl⟩
      obtain ⟨S2, hS2⟩ : ∃ S2 : Nat → Prop, S2 = fun i => Sd2 i ∧ Pl w2 i := ⟨_, rfl⟩
      have hbp := both_pl HB2.out.b
      rw [← hS1, ← hS2] at hbp
      have HPL : Hid (∀ i, Or2 S1 S2 i → Or2 St2 Sd2 i ∧ Pl w2 i) := Lib.hid fun i hi => by
        rw [hS1, hS2] at hi
        rcases hi with hi | hi
        · exact ⟨.inl hi.1, hi.2⟩
        · exact ⟨.inr hi.1, hi.2⟩
      have HBP := Lib.hid hbp
      clear hbp hS1 hS2
      go_wp2_with fail
      refine (Diary.sync_calls S1 S2 gp gd _ safe most _ m w2 HBP.out).mono ?_
      rintro e w3 ⟨rfl, hb3, hc3⟩
      have hk3 := hc3.at_ HB2.out.at_ fun k => pl_not HB2.out.at_ (by decide) (HPL.out _ k).2
      have ht3 := tb_pl HB2.out.tb hc3 fun i hi => (HPL.out i hi).2
      have HB3 := Lib.hid hb3
      have HK3 := Lib.hid hk3
      have HT3 := Lib.hid ht3
      have HOB3 := Lib.hid (hc3.at_ HOB.out fun k => pl_not HOB.out (by decide) (HPL.out _ k).2)
      have HOR3 : Hid ((Sh.sl rowS).ok (erase w3 gt) (o.A, o.n, o.cap, o.rows)) := Lib.hid (by
        have h1 := Sh.ok_ext (erase_ext HE1.out) _ _ HOR.out
        have h2 := Sh.ok_plain h1 HS2.out.chg fun i hi => by
          obtain ⟨cs, T, f, k1, k2⟩ := HPW.out i hi
          exact ⟨cs, T, f, HE1.out.at_ k1, k2⟩
        exact Sh.ok_plain h2 hc3 fun i hi => (HPL.out i hi).2)
      have HC3 := Lib.hid (hc3.mono (S' := Or2 St2 Sd2) fun i _ hi => (HPL.out i hi).1)
      have hs3 : w2.heap.size ≤ w3.heap.size := hc3.size
      have HNT : Hid (¬ Or2 S1 S2 gt) := Lib.hid fun k => pl_not HB2.out.tb.at_ (by decide) (HPL.out _ k).2
      have HNK : Hid (gk ≠ gt) := Lib.hid fun e => by
        have h1 := HB2.out.at_
        rw [e, HB2.out.tb.at_] at h1
        have h2 := Option.some.inj h1
        injection h2 with _ h3
        exact absurd h3 (by decide)
      clear hk0 hb3 hc3 hk3 ht3 HBP HB2 HOB
      go_wp2_with fail
      go_upto_region 7 with fail
      have k1 : ∀ W, Ext w3.drew W → W.cell? ⟨gk, 1, none⟩ = some (.pointer (some ⟨gt, 0, none⟩)) := fun W hW => blk_cell (i := 1) HK3.out (drew_ext hW) rfl
      refine Lex.wp_region_u [0, 1, 2, 3, 4] [5, 6] [] (by kernel_rfl) (by kernel_rfl) (by repeat (first | exact Lex.st_nil | refine Lex.st_cons (by first | exact Lex.nums_st | exact Lex.const_st | exact Lex.such_st | exact Lex.row_st | exact Lex.rowE_st | exact Lex.litR_st | assumption) ?_)) ?_; simp only [Lex.pick, List.getElem?_cons_succ, List.getElem?_cons_zero, List.map_cons, List.map_nil]
      iterate 4 (first | (refine Lex.lexU_skip (by rfl) ?_; simp only [Act.put, List.setIfInBounds_toArray, List.set_cons_zero, List.set_cons_succ]) | (refine Lex.lexU_still (by rfl) (by rfl) (by first | exact Base.Ext.refl | exact Lex.Fill.refl) ?_; apply Exists.intro; refine ⟨fun W hW => ?_, ?_⟩; (have hE := Lex.ext_of_cls hW.1; have hE2 := Lex.ext_drew hE; clear hW; go_simp; try with_reducible rfl); simp only [Act.put, List.setIfInBounds_toArray, List.set_cons_zero, List.set_cons_succ]))
      refine Lex.lexU_still (by rfl) (by rfl) Ext.refl ⟨opV o, fun W hW => ?_, ?_⟩
      · have hE := Lex.ext_drew (Lex.ext_of_cls hW.1)
        clear hW
        exact exec_load_row 82 (.tmp 3) rfl bo rfl 82 (opC o) (0, 0) _ (hE.at_ HOB3.out) Try.underlying82 rfl (by kernel_rfl)
      simp only [Act.put, List.setIfInBounds_toArray, List.set_cons_zero, List.set_cons_succ]
      refine Lex.lexU_nil (fun W hW => ?_)
      have hE := Lib.hid (Lex.ext_drew hW.1)
      clear hW k1
      have hE0 : Chg (Or2 St Sd) w W := by
        have h1 : Chg (Or2 St Sd) w w1 := Below.chg HE1.out
        have h2 : Chg (Or2 St Sd) w w2 := h1.trans HS2.out.chg
        have h3 : Chg (Or2 St Sd) w w3 := h2.step HC3.out fun i hi k => by
          rcases HS2.out.grow i k with k | k
          · exact k
          · have := HE1.out.size
            omega
        exact chg_ext h3 hE.out
      have HE0 := Lib.hid hE0
      have HOW : Hid (OpAt W o) := Lib.hid ⟨HO.out.num, HO.out.name, HO.out.l, HO.out.c, HO.out.p, Sh.ok_off (Sh.ok_ext (erase_ext hE.out) _ _ HOR3.out), HO.out.few, HO.out.each, HO.out.gen, HO.out.node⟩
      go_wp2_with fail
      refine (apply_calls gt sl nd t o W (HT3.out.ext hE.out) (Good.asks HG.out hsl).1 hnd (Good.asks HG.out hsl).2.1 (Good.asks HG.out hsl).2.2.1 HOW.out (Good.asks HG.out hsl).2.2.2.1 (Good.asks HG.out hsl).2.2.2.2).mono ?_
      rintro e w5 ⟨rfl, hc5, t5, ht5, hr5⟩
      rw [HCD.out]
      have HR : Hid (BkAt w5 gk gd gt gp sl nd t5 S1 S2 (bs ++ frame ((recs.length : Int) + 1) (opB o)) (bs ++ frame ((recs.length : Int) + 1) (opB o)).length most (recs ++ [opB o]) (recs ++ [opB o]).length) :=
        Lib.hid ⟨hc5.at_ (hE.out.at_ HK3.out) HNK.out, ⟨(HB3.out.ext hE.out).t.chg hc5 fun i hi k => by have k : i = gt := k; rw [k] at hi; exact HNT.out (.inl hi), (HB3.out.ext hE.out).d.chg hc5 fun i hi k => by have k : i = gt := k; rw [k] at hi; exact HNT.out (.inr hi), (HB3.out.ext hE.out).sep⟩, ht5⟩
      have HR5 := Lib.hid hr5
      have HC5 : Hid (Chg (fun i => Or2 St Sd i ∨ i = gt) w w5) := Lib.hid (((hE0.mono fun i _ k => .inl k).trans (hc5.mono fun i _ k => .inr k)))
      have HGR : Hid (∀ i, Or2 S1 S2 i → Or2 St Sd i ∨ w.heap.size ≤ i) := Lib.hid fun i hi => (HS2.out.grow i (HPL.out i hi).1).imp id fun k => Nat.le_trans HE1.out.size k
      clear hc5 ht5 hr5 hE0
      try simp only [Lex.onlyN]
      go_wp2_with fail
      try simp only [Lex.onlyN]
      go_wp2_with fail
      rw [HQ.out]
      exact ⟨0, rfl, fun k => absurd HCD.out k, fun _ => ⟨HFT.out, .inr ⟨HRO.out, rfl, S1, S2, t5, _, HR.out, HR5.out, HC5.out, HGR.out⟩⟩⟩
  · obtain ⟨rfl, he2⟩ := hno hcd
    have HE := Lib.hid (HE1.out.trans he2)
    have HCD := Lib.hid hcd
    have hne : (applyC sl nd t o != 0) = true := by simp [hcd]
    clear hyes he2 hcd
    go_wp2_with fail
    rw [HQ.out]
    exact ⟨_, rfl, fun _ => ⟨rfl, HE.out⟩, fun k => absurd k HCD.out⟩
set_option maxRecDepth 100000 in
theorem len_calls (gk gd gt gp sl nd : Nat) (t : Tb) (St Sd : Nat → Prop) (bs : List Int) (safe : Nat) (most : Int) (recs : List (List Int)) (m : Nat) (w : World) (h : BkAt w gk gd gt gp sl nd t St Sd bs safe most recs m) :
    Calls Try.prog 40 #[.pointer (some ⟨gk, 0, none⟩)] w fun e w' => e = .returned (.int .i64 recs.length) ∧ Ext w w' := by
  have H := Lib.hid h
  have k0 : w.cell? ⟨gk, 0, none⟩ = some (.pointer (some ⟨gd, 0, none⟩)) := blk_cell (i := 0) h.at_ (Ext.refl _) rfl
  clear h
  go_enter Try.func40, Try.ntmps40
  go_wp2_with fail
  refine (Diary.len_calls Sd gd gp recs m w H.out.b.d).mono ?_
  rintro e w1 ⟨rfl, he⟩
  have HE := Lib.hid he
  clear he k0
  go_wp2_with fail
  go_ret
  exact ⟨rfl, HE.out⟩
set_option maxRecDepth 100000 in
theorem table_calls (gk gd gt gp sl nd : Nat) (t : Tb) (St Sd : Nat → Prop) (bs : List Int) (safe : Nat) (most : Int) (recs : List (List Int)) (m : Nat) (w : World) (h : BkAt w gk gd gt gp sl nd t St Sd bs safe most recs m) :
    Calls Try.prog 39 #[.pointer (some ⟨gk, 0, none⟩)] w fun e w' => e = .returned (.pointer (some ⟨gt, 0, none⟩)) ∧ Ext w w' := by
  have k0 : w.cell? ⟨gk, 1, none⟩ = some (.pointer (some ⟨gt, 0, none⟩)) := blk_cell (i := 1) h.at_ (Ext.refl _) rfl
  clear h
  go_enter Try.func39, Try.ntmps39
  go_wp2_with fail
  go_ret
  exact ⟨rfl, Ext.refl _⟩
set_option maxRecDepth 100000 in
set_option maxHeartbeats 8000000 in
theorem open_calls (gp sl nd : Nat) (S : Nat → Prop) (bs : List Int) (safe : Nat) (most : Int) (os : List Tbl.Op) (f : Nat → Tb) (w : World) (h : Tape.Tape w S gp bs safe most) (hx : bs.length ≤ 1099511627776) (hh : Hist sl nd os f) (hno : ∀ o ∈ os, norm o = o) (hrec : (records bs).1 = os.map opB) (hos : os.length ≤ 1099511627776) (h1 : 1 ≤ sl) (h2 : sl ≤ 24) (h3 : 1 ≤ nd) (h4 : nd ≤ 32) :
    Calls Try.prog 37 #[.pointer (some ⟨gp, 0, none⟩), .int .i64 sl, .int .i64 nd] w fun e w' => ∃ (gk gd gt : Nat) (t : Tb) (St Sd : Nat → Prop), e = .returned (.tuple #[.pointer (some ⟨gk, 0, none⟩), .int .i64 0]) ∧
      BkAt w' gk gd gt gp sl nd t St Sd (bs.take (records bs).2.toNat) (records bs).2.toNat most (os.map opB) os.length ∧ Tbl.Good sl nd t (f os.length) ∧ Chg S w w' ∧ (∀ i, St i → S i ∨ w.heap.size ≤ i) ∧ (∀ i, Sd i → w.heap.size ≤ i) ∧ w.heap.size ≤ gt ∧ w.heap.size ≤ gk := by
  have HH := Lib.hid hh
  have HNO := Lib.hid hno
  have HREC := Lib.hid hrec
  have H := Lib.hid h
  have hlt := h.lt
  have HLT := Lib.hid hlt
  clear hh hno hrec h hlt
  go_enter Try.func37, Try.ntmps37
  go_wp2_with fail
  refine (Tbl.new_calls sl nd w h1 h2 h3 h4).mono ?_
  rintro e w1 ⟨rfl, he1, ht1⟩
  have HE1 := Lib.hid he1
  have HT1 := Lib.hid (show TbAt w1 w.heap.size sl nd ⟨1, 0, none, 0, 0, []⟩ from ht1)
  clear he1 ht1
  obtain ⟨gt, hgt⟩ : ∃ gt, gt = w.heap.size := ⟨_, rfl⟩
  rw [← hgt] at HT1 ⊢
  have HGT := Lib.hid hgt
  clear hgt
  go_wp2_with fail
  refine (Diary.open_calls (fun i => S i ∧ Pl w1 i) gp bs safe most w1 (tape_pl (H.out.ext HE1.out)) hx).mono ?_
  rintro e w2 ⟨gd, St, Sd, rfl, hb2, hc2, hg2, hn2⟩
  have ht2 := tb_pl HT1.out hc2 fun i hi => hi.2
  have HT2 := Lib.hid ht2
  have HB2 : Hid (Diary.Both w2 St Sd gp gd (bs.take (records bs).2.toNat) (records bs).2.toNat most (os.map opB) os.length) := Lib.hid (by
    have := hb2
    rw [HREC.out, List.length_map] at this
    exact this)
  have HC2 : Hid (Chg S w w2) := Lib.hid (Chg.trans (Below.chg HE1.out) (hc2.mono fun i _ hi => hi.1))
  have hs1 : gt < w1.heap.size := HT1.out.lt
  have HGT1 : Hid (w.heap.size ≤ gt ∧ ∀ i, S i → i < gt) := Lib.hid ⟨Nat.le_of_eq HGT.out.symm, fun i hi => by rw [HGT.out]; exact HLT.out i hi⟩
  have HSS : Hid ((∀ i, St i → S i ∨ w1.heap.size ≤ i) ∧ ∀ i, Sd i → w1.heap.size ≤ i) := Lib.hid ⟨fun i hi => (hg2 i hi).imp (fun k => k.1) id, hn2⟩
  have HNT : Hid ((∀ i, St i → ¬ i = gt) ∧ ∀ i, Sd i → ¬ i = gt) := Lib.hid ⟨fun i hi e => by
    rcases HSS.out.1 i hi with k | k
    · have := HGT1.out.2 i k
      omega
    · omega, fun i hi e => by have := HSS.out.2 i hi; omega⟩
  have hw12 : w.heap.size ≤ w1.heap.size := HE1.out.size
  clear ht2 hb2 hc2 hg2 hn2 HGT
  have hol : (os.map opB).length = os.length := List.length_map ..
  have HOL := Lib.hid hol
  clear hol
  go_wp2_with fail
  refine (Diary.len_calls Sd gd gp (os.map opB) os.length w2 HB2.out.d).mono ?_
  rintro e w3 ⟨rfl, he3⟩
  rw [HOL.out]
  have HE3 := Lib.hid he3
  have HG0 : Hid (Tbl.Good sl nd ⟨1, 0, none, 0, 0, []⟩ (f 0)) := Lib.hid (by rw [HH.out.zero]; exact good_new sl nd)
  have HT3 := Lib.hid (HT2.out.ext he3)
  have HB3 := Lib.hid (HB2.out.ext he3)
  have HC3 := Lib.hid (chg_ext HC2.out he3)
  clear he3
  go_upto_region 9 with fail
  go_loopg [13] os.length (fun q i wr => ∃ (k : Nat) (t : Tb), k ≤ os.length ∧ q = os.length - k ∧ i = .int .i64 ((k : Int) + 1) ∧ Hid (TbAt wr gt sl nd t) ∧ Hid (Tbl.Good sl nd t (f k)) ∧ Hid (Diary.Both wr St Sd gp gd (bs.take (records bs).2.toNat) (records bs).2.toNat most (os.map opB) os.length) ∧ Hid (Chg S w wr))
  case atStart => exact ⟨0, ⟨1, 0, none, 0, 0, []⟩, Nat.zero_le _, rfl, by simp, HT3, HG0, HB3, HC3⟩
  case round =>
    clear HT3 HG0 HB3 HC3 HE3
    obtain ⟨k, t, hk, rfl, rfl, HT, HG, HB, HC⟩ := hrel
    by_cases hlt : k < os.length
    · obtain ⟨o, ho⟩ : ∃ o, os[k]? = some o := ⟨_, List.getElem?_eq_getElem hlt⟩
      have hrk : (os.map opB)[k]? = some (opB o) := by rw [List.getElem?_map, ho]; rfl
      obtain ⟨_, _, hfit, _, _⟩ := HH.out.step k o ho
      have hnorm := HNO.out o (List.mem_of_getElem? ho)
      have hol := opB_len hfit
      have HFT := Lib.hid hfit
      have HN := Lib.hid hnorm
      have HO := Lib.hid ho
      have hle : (k : Int) + 1 ≤ os.length := by omega
      clear hfit hnorm ho
      go_wp2_with fail
      refine (Diary.get_calls Sd gd gp (os.map opB) os.length wr HB.out.d k (opB o) hrk (by omega)).mono ?_
      rintro e w4 ⟨he4, A4, c4, rfl, ho4, hwf4⟩
      have HE4 := Lib.hid he4
      have HRD := Lib.hid (ho4.rd hwf4)
      have HCAP := Lib.hid ho4.cap
      clear he4 ho4 hwf4 hrk
      go_wp2_with fail
      refine (parse_calls o sl A4 (opB o).length c4 w4 HRD.out HCAP.out.1 HCAP.out.2 HFT.out h2).mono ?_
      rintro e w5 ⟨o', rfl, he5, hl5, ha5⟩
      rw [HN.out] at hl5
      have HL5 := Lib.hid hl5
      have HA5 := Lib.hid ha5
      have HE5 := Lib.hid (HE4.out.trans he5)
      clear he5 hl5 ha5
      go_upto_region 13 with (refine RowSt.wpList_put 82 _ _ rfl rfl rfl w5.heap.size (opC o') rfl rfl 82 _ (at_new w5 _) (by kernel_rfl) rfl (by simp [Value.oneCell']) ?_; intro w6 hb6 hc6)
      have hE6 : Ext w5 w6 := (Ext.new w5 _).chg hc6 fun i hi => by have hi : i = w5.heap.size := hi; omega
      have HE6 := Lib.hid (HE5.out.trans hE6)
      have HB6 := Lib.hid hb6
      have HA6 := Lib.hid (HA5.out.ext hE6)
      generalize w5.heap.size = bo at *
      clear hb6 hc6 hE6
      go_wp2_with (refine wpList_load_rowG rfl 82 _ rfl bo rfl 82 (opC o') (0, 0) _ HB6.out Try.underlying82 rfl (by kernel_rfl) ?_)
      refine (apply_calls gt sl nd t o' w6 (HT.out.ext HE6.out) (Good.asks HG.out h2).1 h4 (Good.asks HG.out h2).2.1 (Good.asks HG.out h2).2.2.1 HA6.out (Good.asks HG.out h2).2.2.2.1 (Good.asks HG.out h2).2.2.2.2).mono ?_
      rintro e w7 ⟨rfl, hc7, t7, ht7, hr7⟩
      obtain ⟨hz, hg7⟩ := redo HH.out HO.out HG.out HL5.out HA6.out hr7 ht7
      rw [hz]
      have HT7 := Lib.hid ht7
      have HG7 := Lib.hid hg7
      have HB7 : Hid (Diary.Both w7 St Sd gp gd (bs.take (records bs).2.toNat) (records bs).2.toNat most (os.map opB) os.length) := Lib.hid ⟨(HB.out.ext HE6.out).t.chg hc7 fun i hi k => HNT.out.1 i hi k, (HB.out.ext HE6.out).d.chg hc7 fun i hi k => HNT.out.2 i hi k, HB.out.sep⟩
      have HC7 : Hid (Chg S w w7) := Lib.hid ((chg_ext HC.out HE6.out).step hc7 fun i hi k => by have k : i = gt := k; have := HGT1.out.1; omega)
      clear hz hg7 hc7 ht7 hr7
      go_wp2_with fail
      go_roundg (os.length - (k + 1))
      case measure => omega
      case rel => exact ⟨k + 1, t7, by omega, rfl, by first | rfl | go_num, HT7, HG7, HB7, HC7⟩
    · obtain rfl : k = os.length := by omega
      have hle : ¬ (os.length : Int) + 1 ≤ os.length := by omega
      go_wp2_with fail
      go_ret2
      have hE := Ext.new wr (.cells #[.pointer (some ⟨gd, 0, none⟩), .pointer (some ⟨gt, 0, none⟩), .int .i64 sl, .int .i64 nd] 179)
      exact ⟨wr.heap.size, rfl, gd, gt, t, St, Sd, ⟨at_new _ _, HB.out.ext hE, HT.out.ext hE⟩, HG.out, chg_ext HC.out hE, fun i hi => (HSS.out.1 i hi).imp id fun k => Nat.le_trans hw12 k, fun i hi => Nat.le_trans hw12 (HSS.out.2 i hi), HGT1.out.1, HC.out.size⟩
end Go.Proofs.Ytipmkddcdnbihaa.Bk
/- A world without what a law writes: block g and boxes, from block N on. No program in sight. -/
namespace Go.Proofs.Ytipmkddcdnbihaa.Erase
open Go.RowKit Base Step Vec Shape
def mask (w : World) (N g : Nat) : World := { w with heap := w.heap.mapIdx fun i o => if N ≤ i ∧ (i = g ∨ plainO o = true) then .map #[] 0 else o }
theorem mask_get {w : World} {N g i : Nat} : (mask w N g).heap[i]? = (w.heap[i]?).map fun o => if N ≤ i ∧ (i = g ∨ plainO o = true) then .map #[] 0 else o := by
  simp only [mask]
  rw [Array.getElem?_mapIdx]
theorem mask_at {w : World} {N g i : Nat} {o : Obj} (h : w.heap[i]? = some o) (hn : ¬ (N ≤ i ∧ (i = g ∨ plainO o = true))) : (mask w N g).heap[i]? = some o := by
  rw [mask_get, h]
  simp [hn]
theorem mask_cell' {w : World} {N g : Nat} {a : Addr} {v : Value} (h : (mask w N g).cell? a = some v) : w.cell? a = some v ∧ ∃ o, w.heap[a.block]? = some o ∧ ¬ (N ≤ a.block ∧ (a.block = g ∨ plainO o = true)) := by
  unfold World.cell? at h ⊢
  rw [mask_get] at h
  cases ho : w.heap[a.block]? with
  | none => rw [ho] at h; cases h
  | some o =>
    rw [ho] at h
    by_cases hn : N ≤ a.block ∧ (a.block = g ∨ plainO o = true)
    · simp [hn] at h
    · exact ⟨by simpa [hn] using h, o, rfl, hn⟩
theorem cell_mask {w : World} {N g : Nat} {a : Addr} {v : Value} {o : Obj} (h : w.cell? a = some v) (ho : w.heap[a.block]? = some o) (hn : ¬ (N ≤ a.block ∧ (a.block = g ∨ plainO o = true))) : (mask w N g).cell? a = some v := by
  unfold World.cell? at h ⊢
  rw [mask_at ho hn]
  rwa [ho] at h
/-- Whatever is hidden may be written. -/
theorem mask_chg {w w' : World} {N g : Nat} {S : Nat → Prop} (hc : Chg S w w') (hS : ∀ i, S i → N ≤ i ∧ (i = g ∨ ∀ o, w.heap[i]? = some o → plainO o = true)) : ∀ a v, (mask w N g).cell? a = some v → (mask w' N g).cell? a = some v := fun a v h => by
  obtain ⟨h1, o, h2, h3⟩ := mask_cell' h
  have hn : ¬ S a.block := fun hs => by
    obtain ⟨k1, k2⟩ := hS _ hs
    exact h3 ⟨k1, k2.elim .inl fun k => .inr (k o h2)⟩
  exact cell_mask (hc.cell h1 hn) (hc.at_ h2 hn) h3
theorem mask_ext {w w' : World} {N g : Nat} (he : Ext w w') : ∀ a v, (mask w N g).cell? a = some v → (mask w' N g).cell? a = some v := mask_chg (S := fun _ => False) (Below.chg he) fun _ k => k.elim
/-- What was there ahead of N is read. -/
theorem mask_old {w w' : World} {g : Nat} (he : Ext w w') : ∀ a v, w.cell? a = some v → (mask w' w.heap.size g).cell? a = some v := fun a v h => by
  have hlt := World.block_lt_of_cell? w a h
  obtain ⟨o, ho⟩ : ∃ o, w.heap[a.block]? = some o := ⟨_, Array.getElem?_eq_getElem hlt⟩
  exact cell_mask (he.cell_ h) (he.at_ ho) fun k => by omega
end Go.Proofs.Ytipmkddcdnbihaa.Erase
namespace Go.Proofs.Ytipmkddcdnbihaa.DiaryAwake
open Go.RowKit Base Step Vec Diary
open DiaryP (records frame)
theorem rec0 : records [] = ([], 0) := by decide +kernel
theorem torn1 : TapeP.kept 3 21 = 3 := by decide
theorem rec1 : records (TapeP.crash (([] ++ frame 1 [97]) ++ frame 2 [98]) 21 3 0) = ([[97]], 21) := by decide +kernel
theorem lit8 (w : World) (b : Int) (e : TypeId) (f : Nat × Nat) (h0 : 0 ≤ b) (h1 : b < 256) : Rd (w.alloc (.cells #[.int .u8 b] e f)) .u8 (some ⟨w.heap.size, 0, none⟩) 1 [b] :=
  rd_new w .u8 [b] #[.int .u8 b] e f rfl (by simp) (by intro x hx; rw [List.mem_singleton.1 hx]; exact u8_wf h0 h1)
theorem off_new {w : World} {S : Nat → Prop} (h : ∀ i, S i → i < w.heap.size) (n : Nat) : Off S (some ⟨w.heap.size, 0, none⟩) n := fun _ ad ha hs => by
  cases ha
  have h2 : w.heap.size < w.heap.size := h _ hs
  omega
end Go.Proofs.Ytipmkddcdnbihaa.DiaryAwake
