/- Texts put together: TableZ, TableSim, TableTell, TableUse, TableBytes, TableRBytes, TableSame, TableGood. Contracts and plain facts, no condition but what each says. -/
import Derived.Test.YtipmkddcdnbihaaBk5
/- The document's tables: an operation is done; new tables; walked. (Printed by gen_tableZ.py.) -/
namespace Go.Proofs.Ytipmkddcdnbihaa.Tbl
open Go.RowKit Base Step Vec Shape Erase
def rRemoveC (t : Tb) (o : Op) : Int := if nameAt t.objs o.name < 0 then 6 else 0
noncomputable def rApplyC (sl nd : Nat) (t : Tb) (o : Op) : Int :=
  if o.kind = 1 then beginC t.nx o
  else if o.kind = 2 then rCommitC sl nd t o
  else if o.kind = 3 then rRemoveC t o
  else if o.kind = 4 then moveC sl nd t o else 1
def RApplyR (sl nd : Nat) (t : Tb) (o : Op) (t' : Tb) : Prop :=
  if o.kind = 1 then t' = (if beginC t.nx o = 0 then { t with nx := t.nx + 1 } else t)
  else if o.kind = 2 then RCommitR sl nd t o (rCommitC sl nd t o) t'
  else if o.kind = 3 then (if nameAt t.objs o.name < 0 then t' = t else removed t (nameAt t.objs o.name).toNat t')
  else if o.kind = 4 then MoveR sl nd t o (moveC sl nd t o) t' else t' = t
theorem nameFrom_spec (s : ByteArray) : ∀ (l : List Obj) (i : Nat), (nameFrom s l i = -1 ∧ ∀ o ∈ l, name o ≠ s) ∨ ∃ j o, nameFrom s l i = ((i + j : Nat) : Int) ∧ l[j]? = some o ∧ name o = s
  | [], i => .inl ⟨rfl, by simp⟩
  | o :: l, i => by
    unfold nameFrom
    by_cases h : name o = s
    · rw [if_pos h]
      exact .inr ⟨0, o, rfl, rfl, h⟩
    · rw [if_neg h]
      rcases nameFrom_spec s l (i + 1) with ⟨h1, h2⟩ | ⟨j, p, h1, h2, h3⟩
      · exact .inl ⟨h1, fun q hq => (List.mem_cons.1 hq).elim (fun e => e ▸ h) (h2 q)⟩
      · exact .inr ⟨j + 1, p, by rw [h1]; congr 1; omega, h2, h3⟩
set_option maxRecDepth 100000 in
theorem rNew_calls (sl nd : Nat) (w : World) :
    Calls Try.prog 44 #[.int .i64 sl, .int .i64 nd] w fun e w' => e = .returned (tabV sl nd ⟨1, 0, none, 0, 0, []⟩) ∧ Ext w w' ∧ Doc w' ⟨1, 0, none, 0, 0, []⟩ := by
  have hz := at_new w (.cells tab0 95)
  have he := Ext.new w (.cells tab0 95)
  go_enter Try.func44, Try.ntmps44
  go_wp2_with (refine RowSt.wpList_put 95 _ _ rfl rfl rfl w.heap.size (tabC sl nd ⟨1, 0, none, 0, 0, []⟩) rfl rfl 95 _ hz (by kernel_rfl) rfl (by simp [Value.oneCell']) ?_; intro w8 hb8 hc8)
  refine bodyPost_ret (v := tabV sl nd ⟨1, 0, none, 0, 0, []⟩) (results_cell_row rfl _ _ w.heap.size 95 _ (0, 0) _ rfl hb8 Try.underlying95 rfl (by kernel_rfl)) rfl ?_
  exact ⟨rfl, he.chg hc8 fun i hi => by have hi : i = w.heap.size := hi; omega, rfl, Nat.le_refl _, by decide, fun _ => rfl, fun i x hx => (by cases hx)⟩
set_option maxRecDepth 100000 in
set_option maxHeartbeats 8000000 in
theorem rApply_calls (sl nd : Nat) (t : Tb) (o : Op) (w0 w : World) (hw0 : Sub w0 w) (h0 : Doc w0 t) (hn : t.n ≤ 1099511627776) (hs : ∀ ob ∈ t.objs, Small ob) (hr : ∀ ob ∈ t.objs, ∀ r ∈ rows ob, rN r = sl) (ho0 : OpAt w0 o) (hx0 : 0 ≤ t.nx) (hx1 : t.nx ≤ 4294967295) :
    Calls Try.prog 46 #[tabV sl nd t, opV o] w (RDid w0 w sl nd (rApplyC sl nd t o) fun t' => RApplyR sl nd t o t') := by
  obtain ⟨Q, hQ⟩ : ∃ Q, Q = RDid w0 w sl nd (rApplyC sl nd t o) fun t' => RApplyR sl nd t o t' := ⟨_, rfl⟩
  have HQ := Lib.hid hQ
  rw [← hQ]
  clear hQ
  have h := Sh.ok_le hw0 _ _ h0
  have ho := ho0.sub hw0
  have H := Lib.hid h
  have HO := Lib.hid ho
  have H0 := Lib.hid h0
  have HO0 := Lib.hid ho0
  have HS := Lib.hid hs
  have HR := Lib.hid hr
  have e0 := Lib.hid (((Ext.new w (.cells (tabC sl nd t) 95)).alloc (.cells (opC o) 89)).alloc (.cells tab0 95))
  have hbt := ((Ext.new (w.alloc (.cells (tabC sl nd t) 95)) (.cells (opC o) 89)).alloc (.cells tab0 95)).at_ (at_new w (.cells (tabC sl nd t) 95))
  have hbo := (Ext.new ((w.alloc (.cells (tabC sl nd t) 95)).alloc (.cells (opC o) 89)) (.cells tab0 95)).at_ (at_new (w.alloc (.cells (tabC sl nd t) 95)) (.cells (opC o) 89))
  have hbz := at_new ((w.alloc (.cells (tabC sl nd t) 95)).alloc (.cells (opC o) 89)) (.cells tab0 95)
  have hsz : (w.alloc (.cells (tabC sl nd t) 95)).heap.size = w.heap.size + 1 := by simp
  have hsz2 : ((w.alloc (.cells (tabC sl nd t) 95)).alloc (.cells (opC o) 89)).heap.size = w.heap.size + 2 := by simp
  rw [hsz] at hbo
  rw [hsz2] at hbz
  clear h ho h0 ho0 hs hr hsz hsz2
  -- an answer that leaves the table as it was
  have hno : ∀ (code : Int) (W : World), rApplyC sl nd t o = code ∧ RApplyR sl nd t o t → Ext w W → Q (.returned (.tuple #[tabV sl nd t, .int .i64 code])) W := fun code W hc he => by
    rw [HQ.out, hc.1]
    exact ⟨t, rfl, he, fun W hW _ => Sh.ok_le hW _ _ H0.out, hc.2⟩
  have HNO := Lib.hid hno
  clear hno
  go_enter Try.func46, Try.ntmps46
  go_upto_region 1 with fail
  generalize ((w.alloc (.cells (tabC sl nd t) 95)).alloc (.cells (opC o) 89)).alloc (.cells tab0 95) = w1 at *
  have HBT := Lib.hid hbt
  have HBO := Lib.hid hbo
  have HBZ := Lib.hid hbz
  have o0 : w1.cell? ⟨w.heap.size + 1, 0, none⟩ = some (.int .i64 o.kind) := blk_cell (i := 0) hbo (Ext.refl _) rfl
  have o1 : w1.cell? ⟨w.heap.size + 1, 1, none⟩ = some (.int .u32 o.num) := blk_cell (i := 1) hbo (Ext.refl _) rfl
  have o2 : w1.cell? ⟨w.heap.size + 1, 2, none⟩ = some (.string o.name) := blk_cell (i := 2) hbo (Ext.refl _) rfl
  have t0 := blk_cell (i := 0) hbt (Ext.refl _) rfl; have tf0 := Pack.free_of hbt 0; have t1 := blk_cell (i := 1) hbt (Ext.refl _) rfl; have tf1 := Pack.free_of hbt 1; have t2 := blk_cell (i := 2) hbt (Ext.refl _) rfl; have tf2 := Pack.free_of hbt 2; have t3 := blk_cell (i := 3) hbt (Ext.refl _) rfl; have tf3 := Pack.free_of hbt 3; have t4 := blk_cell (i := 4) hbt (Ext.refl _) rfl; have tf4 := Pack.free_of hbt 4
  by_cases h1 : o.kind = 1
  · have hk : (o.kind == 1) = true := by simp [h1]
    have HK := Lib.hid h1
    clear h1
    by_cases hb : o.num = t.nx ∧ o.num ≠ 4294967295
    · have hbc : beginC t.nx o = 0 := by unfold beginC; rw [if_pos hb]
      have HBC := Lib.hid hbc
      obtain ⟨h1, h2⟩ := hb
      have hd1 : (o.num != t.nx) = false := by simp [h1]
      have hd2 : (o.num == 4294967295) = false := by simp [h2]
      have hw : IntKind.u32.wrap (t.nx + 1) = t.nx + 1 := wrap_u32 (by omega) (by omega)
      clear hbc h1 h2
      go_upto_region 6 with fail
      have hs2 := set_blk (i := 2) hbt (.int .u32 (t.nx + 1))
      have hc2 : Chg (fun i => i = w.heap.size) w1 (w1.setCell ⟨w.heap.size, 2, none⟩ (.int .u32 (t.nx + 1))) := (Chg.refl (fun i => i = w.heap.size) w1).setCell (p := ⟨w.heap.size, 2, none⟩) rfl _
      have HBT2 : Hid ((w1.setCell ⟨w.heap.size, 2, none⟩ (.int .u32 (t.nx + 1))).heap[w.heap.size]? = some (.cells (tabC sl nd { t with nx := t.nx + 1 }) 95 (0, 0))) := Lib.hid (by simpa using hs2)
      have hz2 := hc2.at_ hbz (by omega)
      have HE2 := Lib.hid (e0.out.chg hc2 fun i hi => by have hi : i = w.heap.size := hi; omega)
      clear t0 t1 t2 t3 t4 tf0 tf1 tf2 tf3 tf4 o0 o1 o2 hs2 hc2 hbt hbo hbz
      generalize w1.setCell ⟨w.heap.size, 2, none⟩ (.int .u32 (t.nx + 1)) = w2 at *
      have hbt := HBT2.out
      have t0 := blk_cell (i := 0) hbt (Ext.refl _) rfl; have tf0 := Pack.free_of hbt 0; have t1 := blk_cell (i := 1) hbt (Ext.refl _) rfl; have tf1 := Pack.free_of hbt 1; have t2 := blk_cell (i := 2) hbt (Ext.refl _) rfl; have tf2 := Pack.free_of hbt 2; have t3 := blk_cell (i := 3) hbt (Ext.refl _) rfl; have tf3 := Pack.free_of hbt 3; have t4 := blk_cell (i := 4) hbt (Ext.refl _) rfl; have tf4 := Pack.free_of hbt 4
      go_wp2_with (refine RowSt.wpList_put 95 _ _ rfl rfl rfl (w.heap.size + 2) (tabC sl nd { t with nx := t.nx + 1 }) rfl rfl 95 _ hz2 (by kernel_rfl) rfl (by simp [Value.oneCell']) ?_; intro w8 hb8 hc8)
      refine bodyPost_ret (v := .tuple #[tabV sl nd { t with nx := t.nx + 1 }, .int .i64 0]) (RowSt.results_cell_tmp (p := 4) (q := 5) rfl _ _ (w.heap.size + 2) 95 _ (0, 0) _ rfl hb8 Try.underlying95 rfl (by kernel_rfl)) rfl ?_
      have HEZ := HE2.out.chg hc8 fun i hi => by have hi : i = w.heap.size + 2 := hi; omega
      rw [HQ.out]
      refine ⟨{ t with nx := t.nx + 1 }, ?_, HEZ, fun W hW _ => Sh.ok_le hW _ _ H0.out, ?_⟩
      · unfold rApplyC
        rw [if_pos HK.out, HBC.out]
      · show RApplyR sl nd t o _
        unfold RApplyR
        rw [if_pos HK.out, if_pos HBC.out]
    · have hbc : beginC t.nx o = 28 := by unfold beginC; rw [if_neg hb]
      have HC : Hid (rApplyC sl nd t o = 28 ∧ RApplyR sl nd t o t) := Lib.hid (by
        unfold rApplyC RApplyR
        rw [if_pos HK.out, if_pos HK.out, hbc, if_neg (by decide)]
        exact ⟨rfl, rfl⟩)
      by_cases h2 : o.num = t.nx
      · have h3 : o.num = 4294967295 := by
          rcases Decidable.em (o.num = 4294967295) with h | h
          · exact h
          · exact absurd ⟨h2, h⟩ hb
        have hd1 : (o.num != t.nx) = false := by simp [h2]
        have hd2 : (o.num == 4294967295) = true := by simp [h3]
        clear hbc hb h2 h3
        go_wp2_with (refine RowSt.wpList_put 95 _ _ rfl rfl rfl (w.heap.size + 2) (tabC sl nd t) rfl rfl 95 _ hbz (by kernel_rfl) rfl (by simp [Value.oneCell']) ?_; intro w8 hb8 hc8)
        refine bodyPost_ret (v := .tuple #[tabV sl nd t, .int .i64 28]) (RowSt.results_cell_tmp (p := 4) (q := 5) rfl _ _ (w.heap.size + 2) 95 _ (0, 0) _ rfl hb8 Try.underlying95 rfl (by kernel_rfl)) rfl ?_
        exact HNO.out _ _ HC.out (e0.out.chg hc8 fun i hi => by have hi : i = w.heap.size + 2 := hi; omega)
      · have hd1 : (o.num != t.nx) = true := by simp [h2]
        clear hbc hb h2
        go_wp2_with (refine RowSt.wpList_put 95 _ _ rfl rfl rfl (w.heap.size + 2) (tabC sl nd t) rfl rfl 95 _ hbz (by kernel_rfl) rfl (by simp [Value.oneCell']) ?_; intro w8 hb8 hc8)
        refine bodyPost_ret (v := .tuple #[tabV sl nd t, .int .i64 28]) (RowSt.results_cell_tmp (p := 4) (q := 5) rfl _ _ (w.heap.size + 2) 95 _ (0, 0) _ rfl hb8 Try.underlying95 rfl (by kernel_rfl)) rfl ?_
        exact HNO.out _ _ HC.out (e0.out.chg hc8 fun i hi => by have hi : i = w.heap.size + 2 := hi; omega)
  by_cases h2 : o.kind = 2
  · have hk : (o.kind == 2) = true := by simp [h2]
    have HK := Lib.hid h2
    have hk1 : (o.kind == 1) = false := by simp [h1]
    have HK1 := Lib.hid h1
    clear h1 h2
    go_wp2_with (refine wpList_load_rowG rfl 89 _ rfl (w.heap.size + 1) rfl 89 (opC o) (0, 0) _ hbo Try.underlying89 rfl (by kernel_rfl) ?_)
    refine (rCommit_calls sl nd t o w0 w1 (hw0.ext e0.out) H0.out hn HO0.out).mono ?_
    rintro e w2 ⟨t2, rfl, he2, hd2, hr2⟩
    have hz2 := he2.at_ hbz
    have HE2 := Lib.hid (e0.out.trans he2)
    have HX2 := Lib.hid he2
    have HD2 := Lib.hid hd2
    have HR2 := Lib.hid hr2
    have hlt1 : w.heap.size + 2 < w1.heap.size := Pack.lt_of_at hbz
    clear he2 hd2 hr2
    go_wp2_with (refine RowSt.wpList_put 95 _ _ rfl rfl rfl (w.heap.size + 2) (tabC sl nd t2) rfl rfl 95 _ hz2 (by kernel_rfl) rfl (by simp [Value.oneCell']) ?_; intro w8 hb8 hc8)
    refine bodyPost_ret (v := .tuple #[tabV sl nd t2, .int .i64 (rCommitC sl nd t o)]) (RowSt.results_cell_tmp (p := 4) (q := 5) rfl _ _ (w.heap.size + 2) 95 _ (0, 0) _ rfl hb8 Try.underlying95 rfl (by kernel_rfl)) rfl ?_
    have HEZ := HE2.out.chg hc8 fun i hi => by have hi : i = w.heap.size + 2 := hi; omega
    rw [HQ.out]
    refine ⟨t2, ?_, HEZ, fun W hW hk => HD2.out W hW fun i o9 h1 h2 h3 => ?_, ?_⟩
    · unfold rApplyC
      rw [if_neg HK1.out, if_pos HK.out]
    · exact hk i o9 (by omega) (hc8.at_ h2 (fun e => by have e : i = w.heap.size + 2 := e; omega)) h3
    · show RApplyR sl nd t o t2
      unfold RApplyR
      rw [if_neg HK1.out, if_pos HK.out]
      exact HR2.out
  by_cases h3 : o.kind = 3
  · have hk : (o.kind == 3) = true := by simp [h3]
    have HK := Lib.hid h3
    have hk1 : (o.kind == 1) = false := by simp [h1]
    have HK1 := Lib.hid h1
    have hk2 : (o.kind == 2) = false := by simp [h2]
    have HK2 := Lib.hid h2
    clear h1 h2 h3
    go_wp2_with fail
    refine (rFind_calls sl nd t o.name w1 (Sh.ok_ext e0.out _ _ H.out) hn).mono ?_
    rintro e w2 ⟨rfl, he2⟩
    have HX2 := Lib.hid he2
    have HE2 := Lib.hid (e0.out.trans he2)
    have hbt2 := he2.at_ hbt
    have hz2 := he2.at_ hbz
    clear he2 t0 t1 t2 t3 t4 tf0 tf1 tf2 tf3 tf4 o0 o1 o2 hbt hbo hbz
    have t0 := blk_cell (i := 0) hbt2 (Ext.refl _) rfl; have tf0 := Pack.free_of hbt2 0; have t1 := blk_cell (i := 1) hbt2 (Ext.refl _) rfl; have tf1 := Pack.free_of hbt2 1; have t2 := blk_cell (i := 2) hbt2 (Ext.refl _) rfl; have tf2 := Pack.free_of hbt2 2; have t3 := blk_cell (i := 3) hbt2 (Ext.refl _) rfl; have tf3 := Pack.free_of hbt2 3; have t4 := blk_cell (i := 4) hbt2 (Ext.refl _) rfl; have tf4 := Pack.free_of hbt2 4
    rcases nameFrom_spec o.name t.objs 0 with ⟨hk0, _⟩ | ⟨k, ob, hk0, hob, hobn⟩
    · have hk0 : nameAt t.objs o.name = -1 := hk0
      have HC : Hid (rApplyC sl nd t o = 6 ∧ RApplyR sl nd t o t) := Lib.hid (by
        unfold rApplyC RApplyR rRemoveC
        rw [if_neg HK1.out, if_neg HK2.out, if_pos HK.out, if_pos (by omega), if_neg HK1.out, if_neg HK2.out, if_pos HK.out, if_pos (by omega)]
        exact ⟨rfl, rfl⟩)
      rw [hk0]
      clear hk0
      go_wp2_with (refine RowSt.wpList_put 95 _ _ rfl rfl rfl (w.heap.size + 2) (tabC sl nd t) rfl rfl 95 _ hz2 (by kernel_rfl) rfl (by simp [Value.oneCell']) ?_; intro w8 hb8 hc8)
      refine bodyPost_ret (v := .tuple #[tabV sl nd t, .int .i64 6]) (RowSt.results_cell_tmp (p := 4) (q := 5) rfl _ _ (w.heap.size + 2) 95 _ (0, 0) _ rfl hb8 Try.underlying95 rfl (by kernel_rfl)) rfl ?_
      exact HNO.out _ _ HC.out (HE2.out.chg hc8 fun i hi => by have hi : i = w.heap.size + 2 := hi; omega)
    · have hk0 : nameAt t.objs o.name = (k : Nat) := by rw [← Nat.zero_add k]; exact hk0
      have HK0 := Lib.hid hk0
      rw [hk0]
      have hln := (sl_len H.out).1
      have hkn : k < t.n := by have := (List.getElem?_eq_some_iff.1 hob).1; omega
      have hnc := (sl_len H.out).2.1
      have hA0 := (sl_len H.out).2.2.2
      have hcm := (sl_len H.out).2.2.1
      have HL := Lib.hid hln
      clear hln hob hobn hk0
      go_upto_region 13 with fail
      have HB2 := Lib.hid hbt2
      have HZ2 := Lib.hid hz2
      clear t0 t1 t2 t3 t4 tf0 tf1 tf2 tf3 tf4
      have y4 : ∀ W, Ext w2.drew W → W.cell? ⟨w.heap.size, 4, none⟩ = some (.slice t.A t.n t.c) := fun W hW => blk_cell (i := 4) HB2.out (drew_ext hW) rfl
      have HL1 : Hid ((cellsL objS (t.objs.take k)).length = k * 6) := Lib.hid (by rw [cellsL_length, List.length_take, HL.out, Nat.min_eq_left (by omega)]; rfl)
      have HL2 : Hid ((cellsL objS (t.objs.drop (k + 1))).length = (t.n - (k + 1)) * 6) := Lib.hid (by rw [cellsL_length, List.length_drop, HL.out]; rfl)
      have HD0 := Lib.hid (HE2.out.trans (Ext.drew (Ext.refl _)))
      have hw1 : IntKind.i64.wrap (((k : Nat) : Int) + 1) = ((k : Nat) : Int) + 1 := IntWalk.i64_in _ (by omega)
      clear hbt2 hz2
      refine Lex.wp_region_r [0, 1, 2, 3, 4, 5, 6, 7, 8, 9, 10, 11, 12] [13] [(5, 0), (11, 5)] [(0, Lex.rowR w2.drew 200 6 0 []), (5, Lex.rowR w2.drew 200 6 k (cellsL objS (t.objs.take k))), (11, Lex.rowR w2.drew 200 6 (t.n - 1) (cellsL objS (t.objs.take k) ++ cellsL objS (t.objs.drop (k + 1))))] (by kernel_rfl) (by kernel_rfl) (by kernel_rfl) (by repeat (first | exact Lex.ok_nilR | refine Lex.ok_consR (by first | exact Lex.rowR_ok | exact Tbl.rdR_ok | assumption) ?_)) ?_; simp only [Lex.pick, List.getElem?_cons_succ, List.getElem?_cons_zero, List.map_cons, List.map_nil]
      refine Lex.lexR_loose (by rfl) (by rfl) (fun W hW hAP => ?_) ?_
      · have hE := hW.1
        clear hW
        go_simp
        exact Lex.rowR_new hE.size (Ext.new _ _) (own_empty (at_new _ _) (Nat.le_refl _))
      rintro v fx ⟨A0, c0, rfl⟩
      simp only [Act.put, List.setIfInBounds_toArray, List.set_cons_zero, List.set_cons_succ]
      iterate 3 (first | (refine Lex.lexR_skip (by rfl) ?_; simp only [Act.put, List.setIfInBounds_toArray, List.set_cons_zero, List.set_cons_succ]) | (refine Lex.lexR_still (by rfl) (by rfl) ?_; apply Exists.intro; refine ⟨fun W hW => ?_, ?_⟩; (have hE := hW; have hE2 := Lex.ext_drew hE; clear hW; go_simp; try with_reducible rfl); simp only [Act.put, List.setIfInBounds_toArray, List.set_cons_zero, List.set_cons_succ]))
      refine Lex.lexR_still (by rfl) (by rfl) ⟨.slice t.A k t.c, fun W hW => ?_, ?_⟩
      · have hE := hW
        clear hW
        have q1 : ((k : Nat) : Int) ≤ ((t.c : Nat) : Int) := by omega
        cases hAA : t.A with
        | none =>
          have h1 := hA0 hAA
          omega
        | some ad =>
          go_simp
      simp only [Act.put, List.setIfInBounds_toArray, List.set_cons_zero, List.set_cons_succ]
      refine Lex.lexR_loose (by rfl) (by rfl) (fun W hW hAP => ?_) ?_
      · obtain ⟨hown, hfo⟩ := ((hW.2 0 (by kernel_rfl) rfl).2 rfl) _ _ rfl
        have hE := hW.1
        clear hW
        refine Lex.app_looseR (.tmp 43) (.tmp 47) _ rfl 200 _ 6 72 Try.underlying93 infoRObj rfl (by decide) (by decide) rfl hown (fun i hi => ⟨0, by simp, .inr ⟨rfl, hfo i hi⟩⟩) rfl HL1.out (fun h => by have := hA0 h; omega) (fun ad ha j u hu => (HD0.out.trans hE).cell_ (ok_take H.out (by decide) k ad ha j u hu)) (cellsL_one_ _ _) (by omega) hE.size (Nat.zero_add _) rfl
      rintro v fx ⟨A1, c1, rfl⟩
      simp only [Act.put, List.setIfInBounds_toArray, List.set_cons_zero, List.set_cons_succ]
      iterate 4 (first | (refine Lex.lexR_skip (by rfl) ?_; simp only [Act.put, List.setIfInBounds_toArray, List.set_cons_zero, List.set_cons_succ]) | (refine Lex.lexR_still (by rfl) (by rfl) ?_; apply Exists.intro; refine ⟨fun W hW => ?_, ?_⟩; (have hE := hW; have hE2 := Lex.ext_drew hE; clear hW; go_simp; try with_reducible rfl); simp only [Act.put, List.setIfInBounds_toArray, List.set_cons_zero, List.set_cons_succ]))
      refine Lex.lexR_still (by rfl) (by rfl) ⟨.slice (cutA t.A (k + 1) t.c 6) (t.n - (k + 1)) (t.c - (k + 1)), fun W hW => ?_, ?_⟩
      · have hE := hW
        clear hW
        clear hw1
        have q1 : ((k + 1 : Nat) : Int) ≤ ((t.n : Nat) : Int) := by omega
        have q2 : ((t.n : Nat) : Int) ≤ ((t.c : Nat) : Int) := by omega
        unfold cutA
        cases hAA : t.A with
        | none =>
          have h1 := hA0 hAA
          omega
        | some ad =>
          by_cases hpc : k + 1 = t.c
          · have h3 : t.n = t.c := by omega
            go_simp
            exact fun h => absurd (h (by omega)) (by omega)
          · go_simp
            rw [if_pos ⟨by omega, by omega⟩, if_neg (fun h => hpc h.symm)]
      simp only [Act.put, List.setIfInBounds_toArray, List.set_cons_zero, List.set_cons_succ]
      refine Lex.lexR_loose (by rfl) (by rfl) (fun W hW hAP => ?_) ?_
      · obtain ⟨hown, hfo⟩ := ((hW.2 5 (by kernel_rfl) rfl).2 rfl) _ _ rfl
        have hE := hW.1
        clear hW
        refine Lex.app_looseR (.tmp 48) (.tmp 53) _ rfl 200 _ 6 72 Try.underlying93 infoRObj rfl (by decide) (by decide) rfl hown (fun i hi => ⟨5, by simp, .inr ⟨rfl, hfo i hi⟩⟩) rfl HL2.out (fun h => by have := hA0 (cutA_none h); omega) (fun ad ha j u hu => (HD0.out.trans hE).cell_ (ok_drop H.out (by decide) (k + 1) ad ha j u hu)) (cellsL_one_ _ _) (by omega) hE.size (by omega) rfl
      rintro v fx ⟨A4, c4, rfl⟩
      simp only [Act.put, List.setIfInBounds_toArray, List.set_cons_zero, List.set_cons_succ]
      repeat (first | (refine Lex.lexR_skip (by rfl) ?_; simp only [Act.put, List.setIfInBounds_toArray, List.set_cons_zero, List.set_cons_succ]) | (refine Lex.lexR_still (by rfl) (by rfl) ?_; apply Exists.intro; refine ⟨fun W hW => ?_, ?_⟩; (have hE := hW; have hE2 := Lex.ext_drew hE; clear hW; go_simp; try with_reducible rfl); simp only [Act.put, List.setIfInBounds_toArray, List.set_cons_zero, List.set_cons_succ]))
      refine Lex.lexR_nil (fun W hW hF => ?_)
      have HOWN := Lib.hid (((hF 11 rfl).2 rfl) _ _ rfl).1
      have HEW := Lib.hid (Lex.ext_drew hW)
      clear hW hF y4
      have hbw := HEW.out.at_ HB2.out
      have hzw := HEW.out.at_ HZ2.out
      have hs8 := set_blk (i := 4) hbw (.slice A4 (t.n - 1) c4)
      have hc8 : Chg (fun i => i = w.heap.size) W (W.setCell ⟨w.heap.size, 4, none⟩ (.slice A4 (t.n - 1) c4)) := (Chg.refl (fun i => i = w.heap.size) W).setCell (p := ⟨w.heap.size, 4, none⟩) rfl _
      have HZ8 := Lib.hid (hc8.at_ hzw (by omega))
      have hlt2 : w.heap.size + 2 < w2.heap.size := Pack.lt_of_at HZ2.out
      have HO8 : Hid (New w2.drew (W.setCell ⟨w.heap.size, 4, none⟩ (.slice A4 (t.n - 1) c4)) 200 6 A4 (t.n - 1) c4 (cellsL objS (t.objs.take k) ++ cellsL objS (t.objs.drop (k + 1)))) := Lib.hid (HOWN.out.chg hc8 fun i (hi : w2.heap.size ≤ i) k => by omega)
      have hb8' : (W.setCell ⟨w.heap.size, 4, none⟩ (.slice A4 (t.n - 1) c4)).heap[w.heap.size]? = some (.cells (tabC sl nd ⟨t.nx, t.ls, A4, t.n - 1, c4, t.objs.take k ++ t.objs.drop (k + 1)⟩) 95 (0, 0)) := by simpa using hs8
      have HE8 := Lib.hid ((HE2.out.trans HEW.out).chg hc8 fun i hi => by have hi : i = w.heap.size := hi; omega)
      have HB8 := Lib.hid hb8'
      have f4 := Pack.free_of hbw 4
      have g4 := blk_cell (i := 4) hbw (Ext.refl _) rfl
      clear hs8 hc8 hzw hb8'
      go_wp2_with fail
      try simp only [Lex.onlyN]
      go_upto_region 14 with fail
      generalize W.setCell ⟨w.heap.size, 4, none⟩ (.slice A4 (t.n - 1) c4) = w8 at *
      have hb8 := HB8.out
      have t0 := blk_cell (i := 0) hb8 (Ext.refl _) rfl; have tf0 := Pack.free_of hb8 0; have t1 := blk_cell (i := 1) hb8 (Ext.refl _) rfl; have tf1 := Pack.free_of hb8 1; have t2 := blk_cell (i := 2) hb8 (Ext.refl _) rfl; have tf2 := Pack.free_of hb8 2; have t3 := blk_cell (i := 3) hb8 (Ext.refl _) rfl; have tf3 := Pack.free_of hb8 3; have t4 := blk_cell (i := 4) hb8 (Ext.refl _) rfl; have tf4 := Pack.free_of hb8 4
      clear f4 g4 hbw
      go_wp2_with (refine RowSt.wpList_put 95 _ _ rfl rfl rfl (w.heap.size + 2) (tabC sl nd ⟨t.nx, t.ls, A4, t.n - 1, c4, t.objs.take k ++ t.objs.drop (k + 1)⟩) rfl rfl 95 _ HZ8.out (by kernel_rfl) rfl (by simp [Value.oneCell']) ?_; intro w9 hb9 hc9)
      refine bodyPost_ret (v := .tuple #[tabV sl nd ⟨t.nx, t.ls, A4, t.n - 1, c4, t.objs.take k ++ t.objs.drop (k + 1)⟩, .int .i64 0]) (RowSt.results_cell_tmp (p := 4) (q := 5) rfl _ _ (w.heap.size + 2) 95 _ (0, 0) _ rfl hb9 Try.underlying95 rfl (by kernel_rfl)) rfl ?_
      have HE9 : Ext w w9 := HE8.out.chg hc9 fun i hi => by have hi : i = w.heap.size + 2 := hi; omega
      have hrow : New w2.drew w9 200 6 A4 (t.n - 1) c4 (cellsL objS (t.objs.take k ++ t.objs.drop (k + 1))) := by
        have h1 := HO8.out.chg hc9 fun i (hi : w2.heap.size ≤ i) e => by have e : i = w.heap.size + 2 := e; omega
        rw [cellsL_app]
        exact h1
      rw [HQ.out]
      refine ⟨⟨t.nx, t.ls, A4, t.n - 1, c4, t.objs.take k ++ t.objs.drop (k + 1)⟩, ?_, HE9, fun WK hW0 hWk => ?_, ?_⟩
      · unfold rApplyC rRemoveC
        rw [if_neg HK1.out, if_neg HK2.out, if_pos HK.out, if_neg (by rw [HK0.out]; omega)]
      · have hrowK := keepE hrow (by decide) HE2.out.size hWk
        refine ok_own (W := WK) hrowK (by decide) (by simp [HL.out]; omega) (fun x hx => ?_) (fun a v _ hc => hc) (own_max hrow)
        rcases List.mem_append.1 hx with hx | hx
        · obtain ⟨i, hi, hix⟩ := List.getElem_of_mem (List.mem_of_mem_take hx)
          exact Sh.ok_le hW0 _ _ (sl_each H0.out (i := i) (by rw [List.getElem?_eq_getElem hi, hix]))
        · obtain ⟨i, hi, hix⟩ := List.getElem_of_mem (List.mem_of_mem_drop hx)
          exact Sh.ok_le hW0 _ _ (sl_each H0.out (i := i) (by rw [List.getElem?_eq_getElem hi, hix]))
      · show RApplyR sl nd t o _
        unfold RApplyR
        rw [if_neg HK1.out, if_neg HK2.out, if_pos HK.out, if_neg (by rw [HK0.out]; omega), HK0.out]
        exact ⟨rfl, rfl, rfl⟩
  by_cases h4 : o.kind = 4
  · have hk : (o.kind == 4) = true := by simp [h4]
    have HK := Lib.hid h4
    have hk1 : (o.kind == 1) = false := by simp [h1]
    have HK1 := Lib.hid h1
    have hk2 : (o.kind == 2) = false := by simp [h2]
    have HK2 := Lib.hid h2
    have hk3 : (o.kind == 3) = false := by simp [h3]
    have HK3 := Lib.hid h3
    clear h1 h2 h3 h4
    go_wp2_with (refine wpList_load_rowG rfl 89 _ rfl (w.heap.size + 1) rfl 89 (opC o) (0, 0) _ hbo Try.underlying89 rfl (by kernel_rfl) ?_)
    refine (rMove_calls sl nd t o w0 w1 (hw0.ext e0.out) H0.out hn HS.out HR.out HO0.out).mono ?_
    rintro e w2 ⟨t2, rfl, he2, hd2, hr2⟩
    have hz2 := he2.at_ hbz
    have HE2 := Lib.hid (e0.out.trans he2)
    have HX2 := Lib.hid he2
    have HD2 := Lib.hid hd2
    have HR2 := Lib.hid hr2
    have hlt1 : w.heap.size + 2 < w1.heap.size := Pack.lt_of_at hbz
    clear he2 hd2 hr2
    go_wp2_with (refine RowSt.wpList_put 95 _ _ rfl rfl rfl (w.heap.size + 2) (tabC sl nd t2) rfl rfl 95 _ hz2 (by kernel_rfl) rfl (by simp [Value.oneCell']) ?_; intro w8 hb8 hc8)
    refine bodyPost_ret (v := .tuple #[tabV sl nd t2, .int .i64 (moveC sl nd t o)]) (RowSt.results_cell_tmp (p := 4) (q := 5) rfl _ _ (w.heap.size + 2) 95 _ (0, 0) _ rfl hb8 Try.underlying95 rfl (by kernel_rfl)) rfl ?_
    have HEZ := HE2.out.chg hc8 fun i hi => by have hi : i = w.heap.size + 2 := hi; omega
    rw [HQ.out]
    refine ⟨t2, ?_, HEZ, fun W hW hk => HD2.out W hW fun i o9 h1 h2 h3 => ?_, ?_⟩
    · unfold rApplyC
      rw [if_neg HK1.out, if_neg HK2.out, if_neg HK3.out, if_pos HK.out]
    · exact hk i o9 (by omega) (hc8.at_ h2 (fun e => by have e : i = w.heap.size + 2 := e; omega)) h3
    · show RApplyR sl nd t o t2
      unfold RApplyR
      rw [if_neg HK1.out, if_neg HK2.out, if_neg HK3.out, if_pos HK.out]
      exact HR2.out
  · have hk1 : (o.kind == 1) = false := by simp [h1]
    have HK1 := Lib.hid h1
    have hk2 : (o.kind == 2) = false := by simp [h2]
    have HK2 := Lib.hid h2
    have hk3 : (o.kind == 3) = false := by simp [h3]
    have HK3 := Lib.hid h3
    have hk4 : (o.kind == 4) = false := by simp [h4]
    have HK4 := Lib.hid h4
    clear h1 h2 h3 h4
    have HC : Hid (rApplyC sl nd t o = 1 ∧ RApplyR sl nd t o t) := Lib.hid (by
      unfold rApplyC RApplyR
      rw [if_neg HK1.out, if_neg HK2.out, if_neg HK3.out, if_neg HK4.out, if_neg HK1.out, if_neg HK2.out, if_neg HK3.out, if_neg HK4.out]
      exact ⟨rfl, rfl⟩)
    go_wp2_with (refine RowSt.wpList_put 95 _ _ rfl rfl rfl (w.heap.size + 2) (tabC sl nd t) rfl rfl 95 _ hbz (by kernel_rfl) rfl (by simp [Value.oneCell']) ?_; intro w8 hb8 hc8)
    refine bodyPost_ret (v := .tuple #[tabV sl nd t, .int .i64 1]) (RowSt.results_cell_tmp (p := 4) (q := 5) rfl _ _ (w.heap.size + 2) 95 _ (0, 0) _ rfl hb8 Try.underlying95 rfl (by kernel_rfl)) rfl ?_
    exact HNO.out _ _ HC.out (e0.out.chg hc8 fun i hi => by have hi : i = w.heap.size + 2 := hi; omega)
end Go.Proofs.Ytipmkddcdnbihaa.Tbl
/- Two tables that say the same, the program's and the document's: they answer alike, and say the same behind it. -/
namespace Go.Proofs.Ytipmkddcdnbihaa.Tbl
open Go.RowKit Base Step Vec Shape Erase
/-! how texts compare -/
theorem u8_eq {a b : UInt8} (h1 : ¬ a < b) (h2 : ¬ b < a) : a = b := by
  rw [UInt8.lt_iff_toNat_lt] at h1 h2
  exact UInt8.toNat_inj.1 (by omega)
theorem cmp_zero : ∀ a b : List UInt8, Lib.compareBytes a b = 0 ↔ a = b
  | [], [] => by simp [Lib.compareBytes]
  | [], _ :: _ => by simp [Lib.compareBytes]
  | _ :: _, [] => by simp [Lib.compareBytes]
  | a :: xs, b :: ys => by
    unfold Lib.compareBytes
    by_cases h1 : a < b
    · rw [if_pos h1]
      refine ⟨fun h => (by cases h), fun h => ?_⟩
      injection h with h _
      subst h
      rw [UInt8.lt_iff_toNat_lt] at h1
      omega
    · rw [if_neg h1]
      by_cases h2 : b < a
      · rw [if_pos h2]
        refine ⟨fun h => (by cases h), fun h => ?_⟩
        injection h with h _
        subst h
        rw [UInt8.lt_iff_toNat_lt] at h2
        omega
      · rw [if_neg h2, cmp_zero xs ys]
        have := u8_eq h1 h2
        subst this
        simp
theorem cmp_flip : ∀ a b : List UInt8, Lib.compareBytes b a = - Lib.compareBytes a b
  | [], [] => rfl
  | [], _ :: _ => rfl
  | _ :: _, [] => rfl
  | a :: xs, b :: ys => by
    unfold Lib.compareBytes
    by_cases h1 : a < b
    · have h2 : ¬ b < a := by rw [UInt8.lt_iff_toNat_lt] at h1 ⊢; omega
      rw [if_pos h1, if_neg h2, if_pos h1]
      rfl
    · by_cases h2 : b < a
      · rw [if_pos h2, if_neg h1, if_pos h2]
      · rw [if_neg h2, if_neg h1, if_neg h1, if_neg h2, cmp_flip xs ys]
theorem cmp_trans : ∀ a b c : List UInt8, Lib.compareBytes a b < 0 → Lib.compareBytes b c < 0 → Lib.compareBytes a c < 0
  | [], [], c, h, _ => by simp [Lib.compareBytes] at h
  | [], _ :: _, [], _, h => by simp [Lib.compareBytes] at h
  | [], _ :: _, _ :: _, _, _ => by simp [Lib.compareBytes]
  | _ :: _, [], c, h, _ => by simp [Lib.compareBytes] at h
  | _ :: _, _ :: _, [], _, h => by simp [Lib.compareBytes] at h
  | a :: xs, b :: ys, c :: zs, h1, h2 => by
    unfold Lib.compareBytes at h1 h2 ⊢
    by_cases hab : a < b
    · by_cases hbc : b < c
      · rw [if_pos (by rw [UInt8.lt_iff_toNat_lt] at *; omega)]
        decide
      · rw [if_neg hbc] at h2
        by_cases hcb : c < b
        · rw [if_pos hcb] at h2
          exact absurd h2 (by decide)
        · have := u8_eq hbc hcb
          subst this
          rw [if_pos hab]
          decide
    · rw [if_neg hab] at h1
      by_cases hba : b < a
      · rw [if_pos hba] at h1
        exact absurd h1 (by decide)
      · have := u8_eq hab hba
        subst this
        rw [if_neg hba] at h1
        by_cases hbc : a < c
        · rw [if_pos hbc]
          decide
        · rw [if_neg hbc] at h2 ⊢
          by_cases hcb : c < a
          · rw [if_pos hcb] at h2
            exact absurd h2 (by decide)
          · rw [if_neg hcb] at h2 ⊢
            exact cmp_trans xs ys zs h1 h2
theorem less_iff : ∀ a b : List UInt8, Op.bytesLess a b = true ↔ Lib.compareBytes a b < 0
  | [], [] => by simp [Op.bytesLess, Lib.compareBytes]
  | [], _ :: _ => by simp [Op.bytesLess, Lib.compareBytes]
  | _ :: _, [] => by simp [Op.bytesLess, Lib.compareBytes]
  | a :: xs, b :: ys => by
    unfold Op.bytesLess Lib.compareBytes
    by_cases h1 : a < b
    · simp [h1]
    · by_cases h2 : b < a
      · have h3 : a ≠ b := fun e => by subst e; exact h1 h2
        simp [h1, h2, h3]
      · have h3 := u8_eq h1 h2
        subst h3
        simp [h1, less_iff xs ys]
theorem cmpS_zero {a b : ByteArray} : cmpS a b = 0 ↔ a = b := by
  unfold cmpS
  rw [cmp_zero]
  exact ⟨fun h => ByteArray.ext (Array.toList_inj.1 h), fun h => by rw [h]⟩
theorem cmpS_flip (a b : ByteArray) : cmpS b a = - cmpS a b := cmp_flip _ _
theorem cmpS_trans {a b c : ByteArray} (h1 : cmpS a b < 0) (h2 : cmpS b c < 0) : cmpS a c < 0 := cmp_trans _ _ _ h1 h2
theorem lessS_iff {a b : ByteArray} : Op.bytesLess a.toList b.toList = true ↔ cmpS a b < 0 := by
  rw [ByteArray.toList_eq, ByteArray.toList_eq]
  exact less_iff _ _
/-! objects in order -/
def Sorted (l : List Obj) : Prop := l.Pairwise fun a b => cmpS (name a) (name b) < 0
theorem pos_lt {s : ByteArray} : ∀ {l : List Obj} {h : Nat} {o : Obj}, l[h]? = some o → h < posFrom s l → cmpS (name o) s < 0
  | [], h, o, ho, _ => by simp at ho
  | x :: l, h, o, ho, hp => by
    rw [posFrom_cons] at hp
    split at hp
    · rename_i hl
      cases h with
      | zero =>
        have ho : x = o := by simpa using ho
        subst ho
        exact lessS_iff.1 hl
      | succ h => exact pos_lt (l := l) (h := h) (by simpa using ho) (by omega)
    · omega
theorem pos_ge {s : ByteArray} : ∀ {l : List Obj} (hs : Sorted l) {h : Nat} {o : Obj}, l[h]? = some o → posFrom s l ≤ h → ¬ cmpS (name o) s < 0
  | [], _, h, o, ho, _ => by simp at ho
  | x :: l, hs, h, o, ho, hp => by
    have hs' := List.pairwise_cons.1 hs
    rw [posFrom_cons] at hp
    split at hp
    · cases h with
      | zero => omega
      | succ h => exact pos_ge (l := l) hs'.2 (h := h) (by simpa using ho) (by omega)
    · rename_i hl
      have hx : ¬ cmpS (name x) s < 0 := fun k => hl (lessS_iff.2 k)
      cases h with
      | zero =>
        have ho : x = o := by simpa using ho
        subst ho
        exact hx
      | succ h =>
        have hm : o ∈ l := List.mem_of_getElem? (i := h) (by simpa using ho)
        exact fun k => hx (cmpS_trans (hs'.1 o hm) k)
theorem bsGo_eq {cf : Nat → Int} {p : Nat} : ∀ (f i j : Nat), i ≤ p → p ≤ j → j - i ≤ f → (∀ h, h < p → cf h < 0) → (∀ h, p ≤ h → h < j → ¬ cf h < 0) → bsGo cf f i j = p
  | 0, i, j, h1, h2, h3, _, _ => by
    unfold bsGo
    omega
  | f + 1, i, j, h1, h2, h3, h4, h5 => by
    unfold bsGo
    by_cases hij : i < j
    · rw [if_pos hij]
      by_cases hc : cf ((i + j) / 2) < 0
      · rw [if_pos hc]
        have : (i + j) / 2 < p := by
          rcases Nat.lt_or_ge ((i + j) / 2) p with h | h
          · exact h
          · exact absurd hc (h5 _ h (by omega))
        exact bsGo_eq f _ _ (by omega) h2 (by omega) h4 h5
      · rw [if_neg hc]
        have : p ≤ (i + j) / 2 := by
          rcases Nat.lt_or_ge ((i + j) / 2) p with h | h
          · exact absurd (h4 _ h) hc
          · exact h
        exact bsGo_eq f _ _ h1 this (by omega) h4 fun h h6 h7 => h5 h h6 (by omega)
    · rw [if_neg hij]
      omega
theorem place_pos {l : List Obj} (hs : Sorted l) (s : ByteArray) : place l s = posFrom s l := by
  have hle := posFrom_le s l
  refine bsGo_eq _ _ _ (Nat.zero_le _) hle (by omega) (fun h hh => ?_) (fun h h1 h2 => ?_)
  · obtain ⟨o, ho⟩ : ∃ o, l[h]? = some o := ⟨_, List.getElem?_eq_getElem (by omega)⟩
    simp only [ho]
    exact pos_lt ho hh
  · obtain ⟨o, ho⟩ : ∃ o, l[h]? = some o := ⟨_, List.getElem?_eq_getElem h2⟩
    simp only [ho]
    exact pos_ge hs ho h1
/-- A name stands at its place, or nowhere. -/
theorem name_pos {l : List Obj} (hs : Sorted l) {j : Nat} {o : Obj} (ho : l[j]? = some o) : j = posFrom (name o) l := by
  have h0 : cmpS (name o) (name o) = 0 := cmpS_zero.2 rfl
  rcases Nat.lt_trichotomy j (posFrom (name o) l) with h | h | h
  · have := pos_lt ho h
    omega
  · exact h
  · obtain ⟨x, hx⟩ : ∃ x, l[posFrom (name o) l]? = some x := ⟨_, List.getElem?_eq_getElem (by have := (List.getElem?_eq_some_iff.1 ho).1; omega)⟩
    have h1 := pos_ge hs hx (Nat.le_refl _)
    have h2 := List.pairwise_iff_getElem.1 hs _ _ (List.getElem?_eq_some_iff.1 hx).1 (List.getElem?_eq_some_iff.1 ho).1 h
    rw [(List.getElem?_eq_some_iff.1 hx).2, (List.getElem?_eq_some_iff.1 ho).2] at h2
    exact absurd h2 h1
theorem there_name {l : List Obj} (hs : Sorted l) (s : ByteArray) : (there l s = false ∧ nameAt l s = -1) ∨ (there l s = true ∧ nameAt l s = (place l s : Nat) ∧ ∃ o, l[place l s]? = some o ∧ name o = s) := by
  rcases nameFrom_spec s l 0 with ⟨h1, h2⟩ | ⟨j, o, h1, h2, h3⟩
  · left
    refine ⟨?_, h1⟩
    cases hh : there l s with
    | false => rfl
    | true =>
      obtain ⟨o, ho, hc⟩ := there_at hh
      exact absurd (cmpS_zero.1 hc) (h2 o (List.mem_of_getElem? ho))
  · right
    have hj : j = place l s := by rw [place_pos hs, ← h3]; exact name_pos hs h2
    subst hj
    refine ⟨?_, by rw [show nameAt l s = nameFrom s l 0 from rfl, h1, Nat.zero_add], o, h2, h3⟩
    rw [there_yes h2]
    exact decide_eq_true (cmpS_zero.2 h3)
/-! what objects say -/
abbrev View := Int × ByteArray × planS.T × List (List plS.T)
def view (o : Obj) : View := (num o, name o, plan o, (rows o).map rP)
theorem view_num {a b : Obj} (h : view a = view b) : num a = num b := congrArg (·.1) h
theorem view_name {a b : Obj} (h : view a = view b) : name a = name b := congrArg (·.2.1) h
theorem view_plan {a b : Obj} (h : view a = view b) : plan a = plan b := congrArg (·.2.2.1) h
theorem view_rows {a b : Obj} (h : view a = view b) : (rows a).map rP = (rows b).map rP := congrArg (·.2.2.2) h
theorem posFrom_view {s : ByteArray} : ∀ {l m : List Obj}, l.map view = m.map view → posFrom s l = posFrom s m
  | [], [], _ => rfl
  | [], _ :: _, h => by simp at h
  | _ :: _, [], h => by simp at h
  | a :: l, b :: m, h => by
    simp only [List.map_cons, List.cons.injEq] at h
    rw [posFrom_cons, posFrom_cons, view_name h.1, posFrom_view h.2]
theorem nameFrom_view {s : ByteArray} : ∀ {l m : List Obj} {i : Nat}, l.map view = m.map view → nameFrom s l i = nameFrom s m i
  | [], [], _, _ => rfl
  | [], _ :: _, _, h => by simp at h
  | _ :: _, [], _, h => by simp at h
  | a :: l, b :: m, i, h => by
    simp only [List.map_cons, List.cons.injEq] at h
    unfold nameFrom
    rw [view_name h.1, nameFrom_view h.2]
theorem numFrom_view {k : Int} : ∀ {l m : List Obj} {i : Nat}, l.map view = m.map view → numFrom k l i = numFrom k m i
  | [], [], _, _ => rfl
  | [], _ :: _, _, h => by simp at h
  | _ :: _, [], _, h => by simp at h
  | a :: l, b :: m, i, h => by
    simp only [List.map_cons, List.cons.injEq] at h
    unfold numFrom
    rw [view_num h.1, numFrom_view h.2]
theorem view_at {l m : List Obj} (h : l.map view = m.map view) {i : Nat} {a : Obj} (ha : l[i]? = some a) : ∃ b, m[i]? = some b ∧ view a = view b := by
  have h1 : (l.map view)[i]? = some (view a) := by rw [List.getElem?_map, ha]; rfl
  rw [h, List.getElem?_map] at h1
  obtain ⟨b, hb, he⟩ := Option.map_eq_some_iff.1 h1
  exact ⟨b, hb, he.symm⟩
theorem sorted_view {l m : List Obj} (h : l.map view = m.map view) (hs : Sorted l) : Sorted m := by
  have h1 : (m.map view).Pairwise fun a b => cmpS a.2.1 b.2.1 < 0 := by
    rw [← h, List.pairwise_map]
    exact hs
  rw [List.pairwise_map] at h1
  exact h1
theorem if_iff {α : Type} {p q : Prop} {i : Decidable p} {j : Decidable q} (h : p ↔ q) {x x' y y' : α} (hx : x = x') (hy : y = y') : @ite α p i x y = @ite α q j x' y' := by
  subst hx hy
  by_cases hp : p
  · rw [if_pos hp, if_pos (h.1 hp)]
  · rw [if_neg hp, if_neg fun k => hp (h.2 k)]
/-- Two tables that say the same. -/
structure Eqv (t r : Tb) : Prop where
  nx : t.nx = r.nx
  ls : t.ls = r.ls
  objs : t.objs.map view = r.objs.map view
theorem Eqv.len {t r : Tb} (h : Eqv t r) : t.objs.length = r.objs.length := by
  have := congrArg List.length h.objs
  simpa using this
theorem Eqv.num {t r : Tb} (h : Eqv t r) (k : Int) : numAt t.objs k = numAt r.objs k := numFrom_view h.objs
theorem Eqv.name {t r : Tb} (h : Eqv t r) (s : ByteArray) : nameAt t.objs s = nameAt r.objs s := nameFrom_view h.objs
theorem Eqv.pos {t r : Tb} (h : Eqv t r) (s : ByteArray) : posFrom s t.objs = posFrom s r.objs := posFrom_view h.objs
/-- An operation with other rows that say the same. -/
def Same (l l' : List Row) : Prop := l'.map rP = l.map rP
theorem Made.same {w w' : World} {l l' : List Row} {n c : Nat} {A : Option Addr} (h : Made w w' l l' n A c) (hl : l.length = n) : Same l l' := by
  unfold Same
  apply List.ext_getElem?
  intro i
  rw [List.getElem?_map, List.getElem?_map]
  have h1 := h.len
  rcases Nat.lt_or_ge i n with hi | hi
  · obtain ⟨r, hr⟩ : ∃ r, l[i]? = some r := ⟨_, List.getElem?_eq_getElem (by omega)⟩
    obtain ⟨r', hr'⟩ : ∃ r', l'[i]? = some r' := ⟨_, List.getElem?_eq_getElem (by omega)⟩
    obtain ⟨⟨_, h2⟩, _⟩ := h.alike i r r' hr hr'
    rw [hr, hr']
    simp [h2]
  · rw [List.getElem?_eq_none (by omega), List.getElem?_eq_none (by omega)]
theorem planOk_with {sl nd : Nat} {o : Op} {A : Option Addr} {c : Nat} {l : List Row} (h : Same o.rows l) : PlanOk sl nd (withRows o A c l) ↔ PlanOk sl nd o := by
  have hm : ∀ (x y : List Row), x.map rP = y.map rP → (∀ r ∈ x, Right sl nd (rP r)) → ∀ r ∈ y, Right sl nd (rP r) := fun x y hxy hx r hr => by
    have h1 : rP r ∈ y.map rP := List.mem_map_of_mem hr
    rw [← hxy] at h1
    obtain ⟨r0, h2, h3⟩ := List.mem_map.1 h1
    rw [← h3]
    exact hx r0 h2
  exact ⟨fun k => ⟨k.l0, k.l1, k.c0, k.c1, k.p0, k.p1, k.n, hm _ _ h k.rows⟩, fun k => ⟨k.l0, k.l1, k.c0, k.c1, k.p0, k.p1, k.n, hm _ _ h.symm k.rows⟩⟩
/-- What is known of both tables. -/
structure Both (t r : Tb) : Prop where
  eqv : Eqv t r
  sorted : Sorted t.objs
  tn : t.objs.length = t.n
  rn : r.objs.length = r.n
  tp : ∀ ob ∈ t.objs, (rows ob).length = pN ob
  rp : ∀ ob ∈ r.objs, (rows ob).length = pN ob
theorem commitC_eq {sl nd : Nat} {t r : Tb} {o : Op} {A : Option Addr} {c : Nat} {l : List Row} (h : Both t r) (hs : Same o.rows l) : commitC sl nd t (withRows o A c l) = rCommitC sl nd r o := by
  have hn : t.n = r.n := by rw [← h.tn, ← h.rn]; exact h.eqv.len
  have h1 : (there t.objs o.name = true) ↔ 0 ≤ nameAt r.objs o.name := by
    rw [← h.eqv.name]
    rcases there_name h.sorted o.name with ⟨h1, h2⟩ | ⟨h1, h2, _⟩
    · rw [h1, h2]; simp
    · rw [h1, h2]; simp
  unfold commitC rCommitC
  have e1 : (withRows o A c l).name = o.name := rfl
  have e2 : (withRows o A c l).num = o.num := rfl
  simp only [e1, e2, h.eqv.nx, h.eqv.ls, hn, h.eqv.num, h1]
  exact if_iff (not_congr (and_congr Iff.rfl (planOk_with hs))) rfl rfl
theorem view_like {o : Op} {ob : Obj} (h : Like o ob) : view ob = (o.num, o.name, (o.l, o.c, o.p, ()), o.rows.map rP) := by
  have hr : (rows ob).map rP = o.rows.map rP := by
    apply List.ext_getElem?
    intro i
    rw [List.getElem?_map, List.getElem?_map]
    have hl := h.len
    rcases Nat.lt_or_ge i o.rows.length with hi | hi
    · obtain ⟨r, hr⟩ : ∃ r, o.rows[i]? = some r := ⟨_, List.getElem?_eq_getElem hi⟩
      obtain ⟨r', hr'⟩ : ∃ r', (rows ob)[i]? = some r' := ⟨_, List.getElem?_eq_getElem (by omega)⟩
      rw [hr, hr']
      simp [(h.alike i r r' hr hr').2]
    · rw [List.getElem?_eq_none hi, List.getElem?_eq_none (by omega)]
  show (num ob, name ob, plan ob, (rows ob).map rP) = _
  rw [h.num, h.name, h.plan, hr]
  rfl
theorem view_obOf (o : Op) : view (obOf o) = (o.num, o.name, (o.l, o.c, o.p, ()), o.rows.map rP) := rfl
theorem sorted_put {l : List Obj} {ob : Obj} (hs : Sorted l) (hn : ∀ o ∈ l, name o ≠ name ob) : Sorted (l.take (posFrom (name ob) l) ++ [ob] ++ l.drop (posFrom (name ob) l)) := by
  have hsub : ∀ x ∈ l.take (posFrom (name ob) l), cmpS (name x) (name ob) < 0 := fun x hx => by
    obtain ⟨j, hj, hjx⟩ := List.getElem_of_mem hx
    have hj2 : j < posFrom (name ob) l ∧ j < l.length := by simp at hj; omega
    exact pos_lt (l := l) (h := j) (by rw [← hjx, List.getElem_take, List.getElem?_eq_getElem hj2.2]) hj2.1
  have hsup : ∀ x ∈ l.drop (posFrom (name ob) l), cmpS (name ob) (name x) < 0 := fun x hx => by
    obtain ⟨j, hj, hjx⟩ := List.getElem_of_mem hx
    have hj2 : posFrom (name ob) l + j < l.length := by simp at hj; omega
    have h1 := pos_ge hs (h := posFrom (name ob) l + j) (o := x) (by rw [← hjx, List.getElem_drop, List.getElem?_eq_getElem hj2]) (Nat.le_add_right _ _)
    have h2 : cmpS (name x) (name ob) ≠ 0 := fun k => hn x (List.mem_of_mem_drop hx) (cmpS_zero.1 k)
    rw [cmpS_flip]
    omega
  unfold Sorted
  rw [List.append_assoc, List.pairwise_append]
  refine ⟨hs.sublist (List.take_sublist ..), ?_, fun a ha b hb => ?_⟩
  · rw [List.singleton_append, List.pairwise_cons]
    exact ⟨hsup, hs.sublist (List.drop_sublist ..)⟩
  · rcases List.mem_append.1 hb with hb | hb
    · have hb : b = ob := by simpa using hb
      subst hb
      exact hsub a ha
    · exact cmpS_trans (hsub a ha) (hsup b hb)
theorem sim_commit {sl nd : Nat} {t r t' r' : Tb} {o : Op} {A : Option Addr} {c : Nat} {l : List Row} {w : World} (h : Both t r) (hs : Same o.rows l) (ht : CommitR sl nd t (withRows o A c l) w (commitC sl nd t (withRows o A c l)) t') (hr : RCommitR sl nd r o (rCommitC sl nd r o) r') : Eqv t' r' ∧ Sorted t'.objs := by
  have hc := commitC_eq (sl := sl) (nd := nd) (A := A) (c := c) h hs
  by_cases h0 : rCommitC sl nd r o = 0
  · obtain ⟨_, _, h1, h2, ob, h3, h4⟩ := ht.2 (by rw [hc]; exact h0)
    obtain ⟨_, _, k1, k2, k3⟩ := hr.2 h0
    have hz := commit_zero (by rw [hc]; exact h0)
    have hnm : name ob = o.name := h3.name
    have hpl : place t.objs (withRows o A c l).name = posFrom o.name t.objs := place_pos h.sorted _
    rw [hpl] at h4
    have hno : ∀ x ∈ t.objs, name x ≠ name ob := fun x hx => by
      rw [hnm]
      rcases nameFrom_spec o.name t.objs 0 with ⟨_, h6⟩ | ⟨j, p, h5, h6, h7⟩
      · exact h6 x hx
      · exfalso
        rcases there_name h.sorted o.name with ⟨h8, h9⟩ | ⟨h8, _⟩
        · have : nameAt t.objs o.name = ((0 + j : Nat) : Int) := h5
          omega
        · have h10 : there t.objs o.name = false := hz.2.2.2
          rw [h8] at h10
          cases h10
    refine ⟨⟨by rw [h1, k1]; exact h.eqv.nx, by rw [h2, k2]; rfl, ?_⟩, ?_⟩
    · rw [h4, k3, ← h.eqv.pos]
      simp only [List.map_append, List.map_take, List.map_drop, List.map_cons, List.map_nil, h.eqv.objs]
      have hv : view ob = view (obOf o) := by
        rw [view_like h3, view_obOf]
        show (o.num, o.name, (o.l, o.c, o.p, ()), l.map rP) = _
        rw [hs]
      rw [hv]
    · rw [h4, ← hnm]
      exact sorted_put h.sorted hno
  · rw [ht.1 (by rw [hc]; exact h0), hr.1 h0]
    exact ⟨h.eqv, h.sorted⟩
theorem sim_remove {t r t' r' : Tb} {s : ByteArray} (h : Both t r) (ht : if there t.objs s then removed t (place t.objs s) t' else t' = t) (hr : if nameAt r.objs s < 0 then r' = r else removed r (nameAt r.objs s).toNat r') : Eqv t' r' ∧ Sorted t'.objs ∧ ((there t.objs s = true) ↔ ¬ nameAt r.objs s < 0) := by
  rw [← h.eqv.name] at hr ⊢
  rcases there_name h.sorted s with ⟨h1, h2⟩ | ⟨h1, h2, _⟩
  · rw [h1] at ht ⊢
    rw [h2] at hr ⊢
    rw [if_neg Bool.false_ne_true] at ht
    rw [if_pos (by decide)] at hr
    subst ht hr
    exact ⟨h.eqv, h.sorted, by simp⟩
  · rw [h1, if_pos rfl] at ht
    rw [h2, if_neg (by omega)] at hr
    rw [h1, h2]
    obtain ⟨a1, a2, a3⟩ := ht
    obtain ⟨b1, b2, b3⟩ := hr
    refine ⟨⟨by rw [a1, b1]; exact h.eqv.nx, by rw [a2, b2]; exact h.eqv.ls, ?_⟩, h.sorted.sublist (removed_sub ⟨a1, a2, a3⟩), by simp⟩
    rw [a3, b3]
    simp only [List.map_append, List.map_take, List.map_drop, h.eqv.objs, Int.toNat_natCast]
/-! a slot's shard is elsewhere -/
def setView (v : View) (j q : Nat) (p : plS.T) : View := (v.1, v.2.1, v.2.2.1, v.2.2.2.set j ((v.2.2.2.getD j []).set q p))
theorem view_moved {o : Op} {ob ob' : Obj} (h : Moved o ob ob') (hj : o.stripe.toNat < (rows ob).length) : view ob' = setView (view ob) o.stripe.toNat o.slot.toNat (pl o.node o.gen) := by
  have hr : (rows ob').map rP = ((rows ob).map rP).set o.stripe.toNat ((((rows ob).map rP).getD o.stripe.toNat []).set o.slot.toNat (pl o.node o.gen)) := by
    apply List.ext_getElem?
    intro i
    have hl := h.len
    rw [List.getElem?_map]
    rcases Nat.lt_or_ge i (rows ob).length with hi | hi
    · obtain ⟨r, hr⟩ : ∃ r, (rows ob)[i]? = some r := ⟨_, List.getElem?_eq_getElem hi⟩
      obtain ⟨r', hr'⟩ : ∃ r', (rows ob')[i]? = some r' := ⟨_, List.getElem?_eq_getElem (by omega)⟩
      have h2 := (h.each i r r' hr hr').2
      rw [hr']
      by_cases hij : i = o.stripe.toNat
      · rw [if_pos hij] at h2
        rw [hij, List.getElem?_set]
        simp only [List.length_map, hj, if_true]
        rw [List.getD_eq_getElem?_getD, List.getElem?_map, ← hij, hr]
        simp [h2]
      · rw [if_neg hij] at h2
        rw [List.getElem?_set_ne (Ne.symm hij), List.getElem?_map, hr]
        simp [h2]
    · rw [List.getElem?_eq_none (by omega), List.getElem?_eq_none (by simp; omega)]
      rfl
  show (num ob', name ob', plan ob', (rows ob').map rP) = _
  rw [h.num, h.name, h.plan, hr]
  rfl
theorem rows_len {a b : Obj} (h : view a = view b) : (rows a).length = (rows b).length := by
  have := congrArg List.length (view_rows h)
  simpa using this
theorem rowOf_eq {t r : Tb} (h : Eqv t r) (o : Op) : rowOf t o = rowOf r o := by
  unfold rowOf
  rw [h.num]
  cases ht : t.objs[(numAt r.objs o.num).toNat]? with
  | none =>
    have : r.objs[(numAt r.objs o.num).toNat]? = none := by
      rw [List.getElem?_eq_none_iff] at ht ⊢
      rw [← h.len]
      exact ht
    rw [this]
  | some a =>
    obtain ⟨b, hb, hv⟩ := view_at h.objs ht
    rw [hb]
    have hr : ∀ i : Nat, ((rows a)[i]?).map rP = ((rows b)[i]?).map rP := fun i => by rw [← List.getElem?_map, ← List.getElem?_map, view_rows hv]
    have h1 := hr o.stripe.toNat
    dsimp only
    cases ha : (rows a)[o.stripe.toNat]? with
    | none =>
      rw [ha] at h1
      cases hb2 : (rows b)[o.stripe.toNat]? with
      | none => rfl
      | some x => rw [hb2] at h1; cases h1
    | some x =>
      rw [ha] at h1
      cases hb2 : (rows b)[o.stripe.toNat]? with
      | none => rw [hb2] at h1; cases h1
      | some y => rw [hb2] at h1; simpa using h1
theorem badMove_eq {sl : Nat} {t r : Tb} {o : Op} (h : Both t r) : badMove sl t o ↔ badMove sl r o := by
  unfold badMove
  rw [h.eqv.num]
  have h1 : (∀ ob, t.objs[(numAt r.objs o.num).toNat]? = some ob → (pN ob : Int) ≤ o.stripe) ↔ ∀ ob, r.objs[(numAt r.objs o.num).toNat]? = some ob → (pN ob : Int) ≤ o.stripe := by
    constructor
    · intro hh b hb
      obtain ⟨a, ha, hv⟩ := view_at h.eqv.objs.symm hb
      have h2 := hh a ha
      rw [← h.tp a (List.mem_of_getElem? ha)] at h2
      rw [← h.rp b (List.mem_of_getElem? hb), rows_len hv]
      exact h2
    · intro hh a ha
      obtain ⟨b, hb, hv⟩ := view_at h.eqv.objs ha
      have h2 := hh b hb
      rw [← h.rp b (List.mem_of_getElem? hb)] at h2
      rw [← h.tp a (List.mem_of_getElem? ha), rows_len hv]
      exact h2
  rw [h1]
theorem moveC_eq {sl nd : Nat} {t r : Tb} {o : Op} (h : Both t r) : moveC sl nd t o = moveC sl nd r o := by
  unfold moveC toRow
  exact if_iff (badMove_eq h) rfl (if_iff (by rw [rowOf_eq h.eqv]) rfl (if_iff (by rw [rowOf_eq h.eqv]) rfl rfl))
theorem map_set_view {l : List Obj} {k : Nat} {x : Obj} : (l.set k x).map view = (l.map view).set k (view x) := List.map_set
theorem sim_move {sl nd : Nat} {t r t' r' : Tb} {o : Op} (h : Both t r) (ht : MoveR sl nd t o (moveC sl nd t o) t') (hr : MoveR sl nd r o (moveC sl nd r o) r') : Eqv t' r' ∧ Sorted t'.objs := by
  have hc := moveC_eq (sl := sl) (nd := nd) (o := o) h
  by_cases h0 : moveC sl nd r o = 0
  · obtain ⟨k, ob, ob', h1, h2, _, h3, h4, h5, h6⟩ := ht.2 (by rw [hc]; exact h0)
    obtain ⟨k2, pb, pb', k1, k3, _, k4, k5, k6, k7⟩ := hr.2 h0
    have hk : k = k2 := by
      have := h.eqv.num o.num
      rw [h1, k1] at this
      omega
    subst hk
    obtain ⟨pb2, hp2, hv⟩ := view_at h.eqv.objs h2
    rw [k3] at hp2
    cases hp2
    have hnb : ¬ badMove sl t o := fun hb => by
      unfold moveC at h0
      rw [if_pos ((badMove_eq h).1 hb)] at h0
      cases h0
    have hj : o.stripe.toNat < (rows ob).length := by
      rcases Nat.lt_or_ge o.stripe.toNat (rows ob).length with h7 | h7
      · exact h7
      · exfalso
        refine hnb ?_
        by_cases h8 : o.stripe < 0
        · exact .inr (.inl h8)
        · refine .inr (.inr (.inl fun x hx => ?_))
          rw [h1] at hx
          have hx : t.objs[k]? = some x := hx
          rw [h2] at hx
          cases hx
          rw [← h.tp ob (List.mem_of_getElem? h2)]
          omega
    have hvv : view ob' = view pb' := by
      rw [view_moved h3 hj, view_moved k4 (by rw [← rows_len hv]; exact hj), hv]
    have hmap : t'.objs.map view = r'.objs.map view := by rw [h6, k7, map_set_view, map_set_view, h.eqv.objs, hvv]
    have hnames : t'.objs.map name = t.objs.map name := by
      rw [h6, List.map_set, h3.name]
      apply List.ext_getElem?
      intro i
      rcases Decidable.em (i = k) with hi | hi
      · subst hi
        rw [List.getElem?_set, List.getElem?_map, h2]
        simp [(List.getElem?_eq_some_iff.1 h2).1]
      · rw [List.getElem?_set_ne (Ne.symm hi)]
    refine ⟨⟨by rw [h4, k5]; exact h.eqv.nx, by rw [h5, k6]; exact h.eqv.ls, hmap⟩, ?_⟩
    have hq : (t'.objs.map name).Pairwise fun a b => cmpS a b < 0 := by
      rw [hnames, List.pairwise_map]
      exact h.sorted
    rw [List.pairwise_map] at hq
    exact hq
  · rw [ht.1 (by rw [hc]; exact h0), hr.1 h0]
    exact ⟨h.eqv, h.sorted⟩
/-- An operation is answered alike, and both say the same behind it. -/
theorem sim_apply {sl nd : Nat} {t r t' r' : Tb} {o : Op} {A : Option Addr} {c : Nat} {l : List Row} {w : World} (h : Both t r) (hs : Same o.rows l) (ht : ApplyR sl nd t (withRows o A c l) w t') (hr : RApplyR sl nd r o r') :
    applyC sl nd t (withRows o A c l) = rApplyC sl nd r o ∧ Eqv t' r' ∧ Sorted t'.objs := by
  have e0 : (withRows o A c l).kind = o.kind := rfl
  unfold ApplyR at ht
  unfold RApplyR at hr
  unfold applyC rApplyC
  rw [e0] at ht ⊢
  by_cases h1 : o.kind = 1
  · rw [if_pos h1] at ht hr ⊢
    rw [if_pos h1]
    have hb : beginC t.nx (withRows o A c l) = beginC r.nx o := by rw [h.eqv.nx]; rfl
    rw [hb] at ht ⊢
    refine ⟨rfl, ?_⟩
    subst ht hr
    split
    · exact ⟨⟨by show t.nx + 1 = r.nx + 1; rw [h.eqv.nx], h.eqv.ls, h.eqv.objs⟩, h.sorted⟩
    · exact ⟨h.eqv, h.sorted⟩
  rw [if_neg h1] at ht hr ⊢
  rw [if_neg h1]
  by_cases h2 : o.kind = 2
  · rw [if_pos h2] at ht hr ⊢
    rw [if_pos h2]
    exact ⟨commitC_eq h hs, sim_commit h hs ht hr⟩
  rw [if_neg h2] at ht hr ⊢
  rw [if_neg h2]
  by_cases h3 : o.kind = 3
  · rw [if_pos h3] at ht hr ⊢
    rw [if_pos h3]
    have hq := sim_remove (s := o.name) h ht hr
    refine ⟨?_, hq.1, hq.2.1⟩
    unfold removeC rRemoveC
    have hq3 := hq.2.2
    show (if there t.objs o.name = true then (0 : Int) else 6) = _
    by_cases hn : nameAt r.objs o.name < 0
    · rw [if_neg (fun k => hq3.1 k hn), if_pos hn]
    · rw [if_pos (hq3.2 hn), if_neg hn]
  rw [if_neg h3] at ht hr ⊢
  rw [if_neg h3]
  by_cases h4 : o.kind = 4
  · rw [if_pos h4] at ht hr ⊢
    rw [if_pos h4]
    have ht' : MoveR sl nd t o (moveC sl nd t o) t' := by
      refine ⟨ht.1, fun h0 => ?_⟩
      obtain ⟨k, ob, ob', q1, q2, q3, q4, q5, q6, q7⟩ := ht.2 h0
      exact ⟨k, ob, ob', q1, q2, q3, ⟨q4.num, q4.name, q4.plan, q4.n, q4.len, q4.each⟩, q5, q6, q7⟩
    exact ⟨moveC_eq h, sim_move h ht' hr⟩
  · rw [if_neg h4] at ht hr ⊢
    rw [if_neg h4]
    subst ht hr
    exact ⟨rfl, h.eqv, h.sorted⟩
end Go.Proofs.Ytipmkddcdnbihaa.Tbl
/- What a table tells: all names, an object by its number, how many slots stand on each node (the program's and the document's); walked. -/
namespace Go.Proofs.Ytipmkddcdnbihaa.Tbl
open Go.RowKit Base Step Vec Shape Erase
def nameV (l : List Obj) : List Value := l.map fun o => .string (name o)
theorem infoStr : (Try.prog.info? 9).map (fun i => (i.zero, i.size, i.bytes)) = some (some (.string ByteArray.empty), 1, 16) := by kernel_rfl
def bump (u : List Int) (p : plS.T) : List Int := u.set (node p).toNat (u.getD (node p).toNat 0 + 1)
def plsOf (o : Obj) : List plS.T := (rows o).flatMap rP
def useOf (nd : Nat) (l : List plS.T) : List Int := l.foldl bump (List.replicate nd 0)
theorem useOf_len (nd : Nat) (l : List plS.T) : (useOf nd l).length = nd := by
  have : ∀ (l : List plS.T) (u : List Int), (l.foldl bump u).length = u.length := by
    intro l
    induction l with
    | nil => intro u; rfl
    | cons p l ih => intro u; rw [List.foldl_cons, ih]; simp [bump]
  unfold useOf
  rw [this, List.length_replicate]
theorem useOf_le (nd : Nat) (l : List plS.T) : ∀ x ∈ useOf nd l, 0 ≤ x ∧ x ≤ l.length := by
  have : ∀ (l : List plS.T) (u : List Int) (k : Nat), (∀ x ∈ u, 0 ≤ x ∧ x ≤ k) → ∀ x ∈ l.foldl bump u, 0 ≤ x ∧ x ≤ ((k + l.length : Nat) : Int) := by
    intro l
    induction l with
    | nil => intro u k h x hx; have := h x hx; simp at this ⊢; omega
    | cons p l ih =>
      intro u k h
      rw [List.foldl_cons]
      have h1 := ih (bump u p) (k + 1) (fun x hx => by
        rcases List.mem_or_eq_of_mem_set hx with hx | hx
        · have := h x hx
          omega
        · have h2 : 0 ≤ u.getD (node p).toNat 0 ∧ u.getD (node p).toNat 0 ≤ k := by
            rw [List.getD_eq_getElem?_getD]
            cases hg : u[(node p).toNat]? with
            | none => simp
            | some y => exact h y (List.mem_of_getElem? hg)
          omega)
      intro x hx
      have := h1 x hx
      simp only [List.length_cons]
      omega
  intro x hx
  have h1 := this l (List.replicate nd 0) 0 (fun x hx => by simp at hx; omega) x hx
  simpa using h1
theorem useOf_snoc (nd : Nat) (l : List plS.T) (p : plS.T) : useOf nd (l ++ [p]) = bump (useOf nd l) p := by
  unfold useOf
  rw [List.foldl_append]
  rfl
/-- What has been gone through: objects, then rows, then places. -/
def seen (objs : List Obj) (i j m : Nat) : List plS.T :=
  (objs.take i).flatMap plsOf ++ (match objs[i]? with | some o => ((rows o).take j).flatMap rP ++ (match (rows o)[j]? with | some r => (rP r).take m | none => []) | none => [])
theorem seen_place {objs : List Obj} {i j m : Nat} {o : Obj} {r : Row} {p : plS.T} (ho : objs[i]? = some o) (hr : (rows o)[j]? = some r) (hp : (rP r)[m]? = some p) : seen objs i j (m + 1) = seen objs i j m ++ [p] := by
  unfold seen
  simp only [ho, hr]
  rw [List.take_add_one, hp]
  simp
theorem seen_row {objs : List Obj} {i j m : Nat} {o : Obj} {r : Row} (ho : objs[i]? = some o) (hr : (rows o)[j]? = some r) (hm : (rP r).length ≤ m) : seen objs i (j + 1) 0 = seen objs i j m := by
  unfold seen
  simp only [ho, hr]
  rw [List.take_add_one, hr, List.take_of_length_le hm]
  cases (rows o)[j + 1]? <;> simp
theorem seen_obj {objs : List Obj} {i j : Nat} {o : Obj} (ho : objs[i]? = some o) (hj : (rows o).length ≤ j) : seen objs (i + 1) 0 0 = seen objs i j 0 := by
  unfold seen
  simp only [ho]
  rw [List.take_add_one, ho, List.take_of_length_le hj, List.getElem?_eq_none hj]
  have e : ((some o).toList : List Obj) = [o] := rfl
  cases h2 : objs[i + 1]? with
  | none => simp [plsOf]
  | some x =>
    simp [plsOf]
    split <;> rfl
theorem seen_none {objs : List Obj} : seen objs 0 0 0 = [] := by
  unfold seen
  cases h2 : objs[0]? with
  | none => simp
  | some x =>
    simp
    split <;> rfl
theorem seen_all {objs : List Obj} {n : Nat} (h : objs.length ≤ n) : seen objs n 0 0 = objs.flatMap plsOf := by
  unfold seen
  rw [List.take_of_length_le h, List.getElem?_eq_none h]
  simp
/-- Objects whose places are few, on nodes that are there. -/
structure Few (nd sl : Nat) (objs : List Obj) : Prop where
  few : objs.length ≤ 64
  each : ∀ o ∈ objs, (rows o).length ≤ 32 ∧ (rows o).length = pN o ∧ ∀ r ∈ rows o, rN r = sl ∧ ∀ p ∈ rP r, 0 ≤ node p ∧ node p < nd
theorem flat_le_mul {α β : Type} (f : α → List β) (k : Nat) : ∀ (l : List α), (∀ x ∈ l, (f x).length ≤ k) → (l.flatMap f).length ≤ l.length * k
  | [], _ => by simp
  | x :: l, h => by
    have h1 := h x List.mem_cons_self
    have h2 := flat_le_mul f k l fun y hy => h y (List.mem_cons_of_mem _ hy)
    simp only [List.flatMap_cons, List.length_append, List.length_cons, Nat.succ_mul]
    omega
theorem seen_len {objs : List Obj} {nd sl i j m : Nat} (hf : Few nd sl objs) (hsl : sl ≤ 24) (hok : ∀ o ∈ objs, ∀ r ∈ rows o, (rP r).length = rN r) : (seen objs i j m).length ≤ 100000 := by
  have hr : ∀ o ∈ objs, ∀ l : List Row, (∀ x ∈ l, x ∈ rows o) → l.length ≤ 32 → (l.flatMap rP).length ≤ 768 := fun o ho l hl hll => by
    have h1 := flat_le_mul rP 24 l fun r hr => by
      have h2 := hok o ho r (hl r hr)
      have h3 := ((hf.each o ho).2.2 r (hl r hr)).1
      omega
    omega
  have h1 : ((objs.take i).flatMap plsOf).length ≤ 49152 := by
    have h2 := flat_le_mul plsOf 768 (objs.take i) fun o ho => by
      have ho := List.mem_of_mem_take ho
      exact hr o ho (rows o) (fun _ h => h) (hf.each o ho).1
    have h3 : (objs.take i).length ≤ 64 := by have := hf.few; simp; omega
    omega
  unfold seen
  rw [List.length_append]
  cases ho : objs[i]? with
  | none => simp only [List.length_nil]; omega
  | some o =>
    have hom := List.mem_of_getElem? ho
    have h2 := hr o hom ((rows o).take j) (fun x hx => List.mem_of_mem_take hx) (by have := (hf.each o hom).1; simp; omega)
    simp only [List.length_append]
    cases hrr : (rows o)[j]? with
    | none => simp only [List.length_nil]; omega
    | some r =>
      have h3 := hok o hom r (List.mem_of_getElem? hrr)
      have h4 := ((hf.each o hom).2.2 r (List.mem_of_getElem? hrr)).1
      simp only [List.length_take]
      omega
end Go.Proofs.Ytipmkddcdnbihaa.Tbl
/- How many slots stand on each node: the program's Use, and the document's; walked. -/
namespace Go.Proofs.Ytipmkddcdnbihaa.Tbl
open Go.RowKit Base Step Vec Shape Erase
theorem infoInt : (Try.prog.info? 3).map (fun i => (i.zero, i.size, i.bytes)) = some (some (.int .i64 0), 1, 8) := by kernel_rfl
theorem made_own (w : World) (n : Nat) (hn : n ≤ 64) : New w (w.alloc (.cells (madeCells #[.int .i64 0] n) 3)) 3 1 (some ⟨w.heap.size, 0, none⟩) n n (nums .i64 (List.replicate n 0)) := by
  have := Lex.own_lit (w := w) (T := 3) (cs := madeCells #[.int .i64 0] n) (size := 1) (n := n) (by simp [madeCells]) (by simp only [maxLen]; omega)
  rwa [made_nums] at this
theorem rows_ok {w : World} {o : Obj} (h : objS.ok w o) : ∀ r ∈ rows o, (rP r).length = rN r := fun r hr => by
  obtain ⟨i, hi, hir⟩ := List.getElem_of_mem hr
  have h1 : (Sh.sl plS).ok w (rA r, rN r, rC r, rP r) := sl_each (obj_ok h).2.2.2 (i := i) (x := r) (by rw [List.getElem?_eq_getElem hi, hir])
  exact (sl_len h1).1
theorem objs_rows {w : World} {A : Option Addr} {n c : Nat} {objs : List Obj} (h : (Sh.sl objS).ok w (A, n, c, objs)) : ∀ o ∈ objs, ∀ r ∈ rows o, (rP r).length = rN r := fun o ho => by
  obtain ⟨i, hi, hio⟩ := List.getElem_of_mem ho
  exact rows_ok (sl_each h (i := i) (by rw [List.getElem?_eq_getElem hi, hio]))
/-- One place more is counted. -/
theorem use_step {w W : World} {nd c : Nat} {A : Option Addr} {l : List plS.T} {p : plS.T} {j : Nat} (h : New w W 3 1 A nd c (nums .i64 (useOf nd l))) (hp : node p = (j : Nat)) (hj : j < nd) (hl : l.length ≤ 100000) :
    ∃ (ad : Addr) (x : Int), A = some ad ∧ W.cell? (ad.add j) = some (.int .i64 x) ∧ 0 ≤ x ∧ x ≤ 100000 ∧ nums .i64 (useOf nd (l ++ [p])) = (nums .i64 (useOf nd l)).set j (.int .i64 (x + 1)) := by
  have hlen := useOf_len nd l
  obtain ⟨x, hx⟩ : ∃ x, (useOf nd l)[j]? = some x := ⟨_, List.getElem?_eq_getElem (by omega)⟩
  obtain ⟨ad, h1, h2⟩ := own_cell h (j := j) (u := .int .i64 x) (by simp [nums, hx])
  have h3 := useOf_le nd l x (List.mem_of_getElem? hx)
  refine ⟨ad, x, h1, h2, h3.1, by omega, ?_⟩
  rw [useOf_snoc]
  unfold bump nums
  rw [List.map_set, hp, Int.toNat_natCast, List.getD_eq_getElem?_getD, hx]
  rfl
end Go.Proofs.Ytipmkddcdnbihaa.Tbl
/- A table's bytes: the program's writer; walked. -/
namespace Go.Proofs.Ytipmkddcdnbihaa.Tbl
open Go.RowKit Base Step Vec Shape Erase
/-- A text's bytes. -/
def bytesI (s : ByteArray) : List Int := s.data.toList.map fun b => (b.toNat : Int)
theorem bytesI_len (s : ByteArray) : (bytesI s).length = s.size := by
  unfold bytesI
  rw [List.length_map, Array.length_toList]
  rfl
theorem bytesI_wf (s : ByteArray) : ∀ x ∈ bytesI s, (Lit.int .u8 x).wf = true := fun x hx => by
  obtain ⟨b, _, rfl⟩ := List.mem_map.1 hx
  exact u8_wf (by omega) (by have := b.toNat_lt; omega)
theorem conv_str (W : World) (s : ByteArray) (hs : s.size ≤ 140737488351232) : ∃ c W', (convert 9 55 (.string s)).run Try.prog W = .ok (.slice (some ⟨W.heap.size, 0, none⟩) s.size c) W' ∧ Ext W W' ∧ Rd W' .u8 (some ⟨W.heap.size, 0, none⟩) s.size (bytesI s) ∧ W.heap.size < W'.heap.size := by
  have h := run_bytes_of_string (P := Try.prog) W 9 55 5 s Try.underlying9 Try.underlying55 Try.underlying5
  refine ⟨_, _, h, (Ext.refl W).drew.alloc _, ⟨bytesI_len s, by omega, bytesI_wf s, fun h0 => ⟨_, rfl, fun j hj => ?_⟩⟩, ?_⟩
  · refine World.news_of_block (at_new _ _) j _ ?_
    have h1 : j < s.data.toList.length := by rw [Array.length_toList]; exact hj
    simp only [bytesRow, bytesI, Array.toList_append, Array.toList_map]
    rw [List.getElem?_append_left (by simpa using h1), List.getElem?_map, List.getElem?_eq_getElem h1, List.getD_eq_getElem?_getD, List.getElem?_map, List.getElem?_eq_getElem h1]
    rfl
  · simp
/-! writers in a region that draws -/
theorem writer_mono {W : World} {f f' : Nat → Prop} {g : Nat} {xs : List Int} (h : Pack.Writer W f g xs) (hf : ∀ i, i < W.heap.size → f i → f' i) : Pack.Writer W f' g xs := by
  obtain ⟨A, n, c, h1⟩ := h
  exact ⟨A, n, c, h1.at_, h1.own.mono hf, hf _ (Pack.lt_of_at h1.at_) h1.foot, h1.wf⟩
def wrR (P : Nat → Prop) (g : Nat) (xs : List Int) : Lex.LooseR := ⟨fun v => v = .pointer (some ⟨g, 0, none⟩), fun _ f W => Pack.Writer W f g xs ∧ ∀ i, f i → P i ∧ i < W.heap.size⟩
theorem wrR_ok {lo P : Nat → Prop} {g : Nat} {xs : List Int} : (wrR P g xs).Ok lo :=
  ⟨⟨_, rfl⟩, fun v f W W' S hr hc hf _ => ⟨hr.1.chg hc hf, fun i hi => ⟨(hr.2 i hi).1, Nat.lt_of_lt_of_le (hr.2 i hi).2 hc.size⟩⟩⟩
theorem wr_call {L : List (Nat × Nat)} {G : Nat → Nat → Prop} {k : Nat} {W : World} {P f : Nat → Prop} {g : Nat} {ys : List Int} {fn : FuncId} {vs : Array Value} (hb : ∀ i, f i → P i ∧ i < W.heap.size) (hcf : ∀ i, f i → Lex.CF L k G i) (hP : ∀ i, W.heap.size ≤ i → P i)
    (hcall : Calls Try.prog fn vs W fun e w' => e = .returned (.pointer (some ⟨g, 0, none⟩)) ∧ Pack.Writer w' (fun i => f i ∨ W.heap.size ≤ i) g ys ∧ Chg (fun i => f i ∨ W.heap.size ≤ i) W w') :
    Calls Try.prog fn vs W fun e W'' => ∃ v, e = .returned v ∧ (wrR P g ys).T v ∧ Chg (Lex.CF L k G) W W'' ∧ ∃ f', (wrR P g ys).R v f' W'' ∧ ∀ i, f' i → (W.heap.size ≤ i ∧ i < W''.heap.size) ∨ Lex.CF L k G i :=
  hcall.mono fun e w' ⟨h1, h2, h3⟩ => by
    refine ⟨_, h1, rfl, h3.mono fun i hi hk => hk.elim (hcf i) fun h => absurd hi (by omega), fun i => (f i ∨ W.heap.size ≤ i) ∧ i < w'.heap.size, ⟨writer_mono h2 fun i hi hk => ⟨hk, hi⟩, fun i hi => ⟨hi.1.elim (fun h => (hb i h).1) (hP i), hi.2⟩⟩, fun i hi => ?_⟩
    rcases hi.1 with h | h
    · exact .inr (hcf i h)
    · exact .inl ⟨h, hi.2⟩
/-- Bytes that read so, out of blocks of their own. -/
def rdR (n : Nat) (xs : List Int) : Lex.LooseR := ⟨fun v => ∃ A c, v = .slice A n c, fun v f W => ∀ A c, v = .slice A n c → Rd W .u8 A n xs ∧ ∀ ad, A = some ad → 0 < n → f ad.block⟩
theorem rdR_ok {lo : Nat → Prop} {n : Nat} {xs : List Int} : (rdR n xs).Ok lo :=
  ⟨⟨.slice none n 0, none, 0, rfl⟩, fun v f W W' S hr hc hf _ A c e => ⟨(hr A c e).1.chg hc fun ad ha h0 => hf _ ((hr A c e).2 ad ha h0), (hr A c e).2⟩⟩
/-- A text, written. -/
def textB (s : ByteArray) : List Int := Le.le 2 s.size ++ bytesI s
set_option maxRecDepth 100000 in
set_option maxHeartbeats 1000000 in
theorem wtext_calls (S : Nat → Prop) (g : Nat) (xs : List Int) (B : Option Addr) (m cb : Nat) (ys : List Int) (w : World) (hS : ∀ i, w.heap.size ≤ i → S i) (hw : Pack.Writer w S g xs) (hr : Rd w .u8 B m ys) (hne : ∀ ad, B = some ad → 0 < m → ¬ S ad.block) (hx : xs.length ≤ 1099511627000) (hm : m ≤ 1000) :
    Calls Try.prog 100 #[.pointer (some ⟨g, 0, none⟩), .slice B m cb] w fun e w' => e = .returned (.pointer (some ⟨g, 0, none⟩)) ∧ Pack.Writer w' S g (xs ++ (Le.le 2 m ++ ys)) ∧ Chg S w w' := by
  have HS := Lib.hid hS
  have HW := Lib.hid hw
  have HR := Lib.hid hr
  have HNE := Lib.hid hne
  clear hS hw hr hne
  have W0 : IntKind.u64.wrap ((m : Nat) : Int) = ((m : Nat) : Int) := IntWalk.u64_in _ (by omega)
  go_enter Try.func100, Try.ntmps100
  go_wp2_with fail
  refine (Pack.num_calls S g xs m 2 w HS.out HW.out (by decide) (by decide) (by omega) (by omega) (by omega)).mono ?_
  rintro e w1 ⟨rfl, hw1, hc1⟩
  have HW1 := Lib.hid hw1
  have HC1 := Lib.hid hc1
  clear hw1 hc1
  go_wp2_with fail
  refine (Pack.wraw_calls S g (xs ++ Le.le 2 m) B m cb ys w1 (fun i hi => HS.out i (Nat.le_trans HC1.out.size hi)) HW1.out (HR.out.chg HC1.out HNE.out) (by rw [List.length_append, Le.le_length]; omega) (by omega)).mono ?_
  rintro e w2 ⟨rfl, hw2, hc2⟩
  have HW2 := Lib.hid hw2
  have HC2 := Lib.hid (HC1.out.trans hc2)
  clear hw2 hc2
  go_wp2_with fail
  go_ret
  exact ⟨rfl, by rw [← List.append_assoc]; exact HW2.out, HC2.out⟩
theorem num_w {f : Nat → Prop} {g : Nat} {xs ys : List Int} {n size : Int} {W : World} (hw : Pack.Writer W f g xs) (h0 : 0 ≤ size) (h8 : size ≤ 8) (hn0 : 0 ≤ n) (hn1 : n < 18446744073709551616) (hx : xs.length ≤ 1099511627776) (hy : xs ++ Le.le size.toNat n = ys) :
    Calls Try.prog 99 #[.pointer (some ⟨g, 0, none⟩), .int .u64 n, .int .i64 size] W fun e w' => e = .returned (.pointer (some ⟨g, 0, none⟩)) ∧ Pack.Writer w' (fun i => f i ∨ W.heap.size ≤ i) g ys ∧ Chg (fun i => f i ∨ W.heap.size ≤ i) W w' := by
  subst hy
  exact Pack.num_calls (fun i => f i ∨ W.heap.size ≤ i) g xs n size W (fun i hi => .inr hi) (writer_mono hw fun _ _ k => .inl k) h0 h8 hn0 hn1 hx
/-! a table's bytes -/
def hdrB (t : Tb) : List Int := Le.le 4 t.nx ++ Le.le 4 t.ls ++ Le.le 1 t.n
def pl1 (o : Obj) : Int := (plan o).1
def pl2 (o : Obj) : Int := (plan o).2.1
def pl3 (o : Obj) : Int := (plan o).2.2.1
def objB (o : Obj) : List Int := Le.le 4 (num o) ++ textB (name o) ++ Le.le 4 (pl1 o) ++ Le.le 2 (pl2 o) ++ Le.le 2 (pl3 o)
def placeB (p : plS.T) : List Int := Le.le 1 (node p) ++ Le.le 4 (gen p)
def rowB (r : Row) : List Int := (rP r).flatMap placeB
def wholeB (o : Obj) : List Int := objB o ++ (rows o).flatMap rowB
def tableB (t : Tb) : List Int := hdrB t ++ t.objs.flatMap wholeB
/-- What can be written. -/
structure FineO (nd sl : Nat) (o : Obj) : Prop where
  num0 : 0 ≤ num o
  num1 : num o < 4294967296
  nm : (name o).size ≤ 64
  l0 : 0 ≤ pl1 o
  l1 : pl1 o ≤ 16384
  c0 : 0 ≤ pl2 o
  c1 : pl2 o ≤ 32
  p0 : 0 ≤ pl3 o
  p1 : pl3 o ≤ 256
  rws : (rows o).length ≤ 32 ∧ (rows o).length = pN o
  each : ∀ r ∈ rows o, rN r = sl ∧ ∀ p ∈ rP r, 0 ≤ node p ∧ node p < nd ∧ 0 ≤ gen p ∧ gen p < 4294967296
theorem FineO.few {nd sl : Nat} {objs : List Obj} (h : ∀ o ∈ objs, FineO nd sl o) (h64 : objs.length ≤ 64) : Few nd sl objs :=
  ⟨h64, fun o ho => ⟨(h o ho).rws.1, (h o ho).rws.2, fun r hr => ⟨((h o ho).each r hr).1, fun p hp => ⟨(((h o ho).each r hr).2 p hp).1, (((h o ho).each r hr).2 p hp).2.1⟩⟩⟩⟩
theorem objB_len {nd sl : Nat} {o : Obj} (h : FineO nd sl o) : (objB o).length ≤ 78 := by
  have := h.nm
  simp [objB, textB, Le.le_length, bytesI_len]
  omega
theorem rowB_len {nd sl : Nat} {o : Obj} (h : FineO nd sl o) (hsl : sl ≤ 24) (hok : ∀ r ∈ rows o, (rP r).length = rN r) : ∀ r ∈ rows o, (rowB r).length ≤ 120 := fun r hr => by
  have h1 := flat_le_mul placeB 5 (rP r) fun p _ => by simp [placeB, Le.le_length]
  have h2 := hok r hr
  have h3 := ((h.each r hr).1)
  unfold rowB
  omega
set_option maxRecDepth 100000 in
set_option maxHeartbeats 8000000 in
theorem bytes_calls (gt sl nd : Nat) (t : Tb) (w : World) (h : TbAt w gt sl nd t) (hf : ∀ o ∈ t.objs, FineO nd sl o) (h64 : t.objs.length ≤ 64) (hsl : sl ≤ 24) (hnd : nd ≤ 32) (hx0 : 0 ≤ t.nx) (hx1 : t.nx ≤ 4294967295) (hl0 : 0 ≤ t.ls) (hl1 : t.ls ≤ 4294967295) :
    Calls Try.prog 47 #[.pointer (some ⟨gt, 0, none⟩)] w fun e w' => Ext w w' ∧ ∃ A c, e = .returned (.slice A (tableB t).length c) ∧ New w w' 5 1 A (tableB t).length c (nums .u8 (tableB t)) := by
  obtain ⟨nx, ls, A, n, c, objs⟩ := t
  have h : TblAt w gt sl nd nx ls A n c objs := h
  have hx0 : 0 ≤ nx := hx0
  have hx1 : nx ≤ 4294967295 := hx1
  have hl0 : 0 ≤ ls := hl0
  have hl1 : ls ≤ 4294967295 := hl1
  have H := Lib.hid h
  have HF : Hid (∀ o ∈ objs, FineO nd sl o) := Lib.hid hf
  obtain ⟨hl, hnc, _, _⟩ := sl_len h.ok
  have hn64 : n ≤ 64 := by have h64 : objs.length ≤ 64 := h64; omega
  have HL := Lib.hid hl
  have HROWS := Lib.hid (objs_rows h.ok)
  have hgt := h.lt
  have hat := h.at_
  clear h hf hl h64
  go_enter Try.func47, Try.ntmps47
  go_upto_region 4 with fail
  have hw1 := Pack.writer_new (fun i => w.heap.size ≤ i) w (Nat.le_refl _)
  have he1 := Ext.new w (.cells #[.slice none 0 0] 190)
  have hsz1 : (w.alloc (.cells #[.slice none 0 0] 190)).heap.size = w.heap.size + 1 := by simp
  have hat1 := he1.at_ hat
  clear hat
  generalize w.alloc (.cells #[.slice none 0 0] 190) = w1 at *
  have HE1 := Lib.hid he1
  obtain ⟨f0, hf0⟩ : ∃ f0 : Nat → Prop, f0 = fun i => w.heap.size ≤ i ∧ i < w1.heap.size := ⟨_, rfl⟩
  have hfw : Pack.Writer w1 f0 w.heap.size [] := by rw [hf0]; exact writer_mono hw1 fun i hi k => ⟨k, hi⟩
  have hcellA : ∀ W, Chg f0 w1.drew W → W.heap[gt]? = some (.cells #[.int .i64 sl, .int .i64 nd, .int .u32 nx, .int .u32 ls, .slice A n c] 194 (0, 0)) := fun W hW => hW.at_ (i := gt) (show w1.drew.heap[gt]? = _ from hat1) (by rw [hf0]; exact fun k => by omega)
  have z2 : ∀ W, Chg f0 w1.drew W → W.cell? ⟨gt, 2, none⟩ = some (.int .u32 nx) := fun W hW => blk_cell (i := 2) (hcellA W hW) (Ext.refl _) rfl
  have z3 : ∀ W, Chg f0 w1.drew W → W.cell? ⟨gt, 3, none⟩ = some (.int .u32 ls) := fun W hW => blk_cell (i := 3) (hcellA W hW) (Ext.refl _) rfl
  have z4 : ∀ W, Chg f0 w1.drew W → W.cell? ⟨gt, 4, none⟩ = some (.slice A n c) := fun W hW => blk_cell (i := 4) (hcellA W hW) (Ext.refl _) rfl
  have W0 : IntKind.u64.wrap nx = nx := IntWalk.u64_in _ (by omega)
  have W1 : IntKind.u64.wrap ls = ls := IntWalk.u64_in _ (by omega)
  have W2 : IntKind.u64.wrap ((n : Nat) : Int) = ((n : Nat) : Int) := IntWalk.u64_in _ (by omega)
  have HFW := Lib.hid hfw
  have HB0 : Hid (∀ i, f0 i → (fun i => w.heap.size ≤ i) i ∧ i < w1.drew.heap.size) := Lib.hid (by rw [hf0]; exact fun i hi => hi)
  have HP0 : Hid (∀ W, Chg f0 w1.drew W → ∀ i, W.heap.size ≤ i → w.heap.size ≤ i) := Lib.hid fun W hW i hi => Nat.le_trans he1.size (Nat.le_trans hW.size hi)
  clear hfw hcellA hat1 he1 hw1 hf0
  refine Lex.wp_region_rw [0, 1, 2, 3, 4, 5, 6, 7, 8, 9, 10, 11, 12, 13, 14, 15, 16, 17, 18, 19] [] f0 20 (wrR (fun i => w.heap.size ≤ i) w.heap.size []) (.pointer (some ⟨w.heap.size, 0, none⟩)) [(6, 20), (12, 6), (19, 12)] [(6, wrR (fun i => w.heap.size ≤ i) w.heap.size (Le.le 4 nx)), (12, wrR (fun i => w.heap.size ≤ i) w.heap.size (Le.le 4 nx ++ Le.le 4 ls)), (19, wrR (fun i => w.heap.size ≤ i) w.heap.size (hdrB ⟨nx, ls, A, n, c, objs⟩))] (by kernel_rfl) (by kernel_rfl) (by kernel_rfl) (by repeat (first | exact Lex.ok_nilR | refine Lex.ok_consR (by first | exact Lex.rowR_ok | exact Tbl.wrR_ok | exact Tbl.rdR_ok | assumption) ?_)) (by first | exact Tbl.wrR_ok | exact Lex.rowR_ok) ⟨Pack.Writer.chg HFW.out (S' := fun _ => False) (Chg.drew (Chg.refl _ _)) (fun _ _ k => k), HB0.out⟩ (fun i hi => (HB0.out i hi).2) ?_; simp only [Lex.pick, List.getElem?_cons_succ, List.getElem?_cons_zero, List.map_cons, List.map_nil]
  repeat (first | (refine Lex.lexR_skip (by rfl) ?_; simp only [Act.put, List.setIfInBounds_toArray, List.set_cons_zero, List.set_cons_succ]) | (refine Lex.lexR_still (by rfl) (by rfl) ?_; apply Exists.intro; refine ⟨fun W hW => ?_, ?_⟩; (have hE := hW; clear hW; go_simp; try with_reducible rfl); simp only [Act.put, List.setIfInBounds_toArray, List.set_cons_zero, List.set_cons_succ]))
  refine Lex.lexR_loose (by rfl) (by rfl) (fun W hW hAP => ?_) ?_
  · obtain ⟨hwr, hbb⟩ := (hW.2 20 (by kernel_rfl) rfl).2 rfl
    have hP := HP0.out W hW.1
    clear hW hAP
    go_simp
    exact wr_call hbb (fun i hi => ⟨20, by simp, .inr ⟨rfl, hi⟩⟩) hP (num_w hwr (by decide) (by decide) hx0 (by omega) (by simp) rfl)
  rintro v f1 rfl
  simp only [Act.put, List.setIfInBounds_toArray, List.set_cons_zero, List.set_cons_succ]
  repeat (first | (refine Lex.lexR_skip (by rfl) ?_; simp only [Act.put, List.setIfInBounds_toArray, List.set_cons_zero, List.set_cons_succ]) | (refine Lex.lexR_still (by rfl) (by rfl) ?_; apply Exists.intro; refine ⟨fun W hW => ?_, ?_⟩; (have hE := hW; clear hW; go_simp; try with_reducible rfl); simp only [Act.put, List.setIfInBounds_toArray, List.set_cons_zero, List.set_cons_succ]))
  refine Lex.lexR_loose (by rfl) (by rfl) (fun W hW hAP => ?_) ?_
  · obtain ⟨hwr, hbb⟩ := (hW.2 6 (by kernel_rfl) rfl).2 rfl
    have hP := HP0.out W hW.1
    clear hW hAP
    go_simp
    exact wr_call hbb (fun i hi => ⟨6, by simp, .inr ⟨rfl, hi⟩⟩) hP (num_w hwr (by decide) (by decide) hl0 (by omega) (by simp [Le.le_length]) rfl)
  rintro v f2 rfl
  simp only [Act.put, List.setIfInBounds_toArray, List.set_cons_zero, List.set_cons_succ]
  repeat (first | (refine Lex.lexR_skip (by rfl) ?_; simp only [Act.put, List.setIfInBounds_toArray, List.set_cons_zero, List.set_cons_succ]) | (refine Lex.lexR_still (by rfl) (by rfl) ?_; apply Exists.intro; refine ⟨fun W hW => ?_, ?_⟩; (have hE := hW; clear hW; go_simp; try with_reducible rfl); simp only [Act.put, List.setIfInBounds_toArray, List.set_cons_zero, List.set_cons_succ]))
  refine Lex.lexR_loose (by rfl) (by rfl) (fun W hW hAP => ?_) ?_
  · obtain ⟨hwr, hbb⟩ := (hW.2 12 (by kernel_rfl) rfl).2 rfl
    have hP := HP0.out W hW.1
    clear hW hAP
    go_simp
    exact wr_call hbb (fun i hi => ⟨12, by simp, .inr ⟨rfl, hi⟩⟩) hP (num_w hwr (by decide) (by decide) (by omega) (by omega) (by simp [Le.le_length]) rfl)
  rintro v f3 rfl
  simp only [Act.put, List.setIfInBounds_toArray, List.set_cons_zero, List.set_cons_succ]
  repeat (first | (refine Lex.lexR_skip (by rfl) ?_; simp only [Act.put, List.setIfInBounds_toArray, List.set_cons_zero, List.set_cons_succ]) | (refine Lex.lexR_still (by rfl) (by rfl) ?_; apply Exists.intro; refine ⟨fun W hW => ?_, ?_⟩; (have hE := hW; clear hW; go_simp; try with_reducible rfl); simp only [Act.put, List.setIfInBounds_toArray, List.set_cons_zero, List.set_cons_succ]))
  refine Lex.lexR_nil (fun W hW hF => ?_)
  obtain ⟨hwr3, hbb3⟩ := (hF 19 rfl).2 rfl
  have hX4 : Ext w W := HE1.out.chg ((Chg.drew (Chg.refl _ _)).trans hW) fun i hi => (HB0.out i hi).1
  have HX4 := Lib.hid hX4
  have HW4 : Hid (Pack.Writer W (fun i => w.heap.size ≤ i) w.heap.size (hdrB ⟨nx, ls, A, n, c, objs⟩)) := Lib.hid (writer_mono hwr3 fun i _ hi => (hbb3 i hi).1)
  clear hW hF hwr3 hbb3 z2 z3 z4 hX4 HFW HB0 HP0
  refine Lex.onlyN_intro ?_
  have q4 : W.cell? ⟨gt, 4, none⟩ = some (.slice A n c) := blk_cell (i := 4) (H.out.ext HX4.out).at_ (Ext.refl _) rfl
  generalize hG : w.heap.size = g at *
  go_wp2_with fail
  go_loopg [39] n (fun q i wr => ∃ (k : Nat) (xs : List Int), k ≤ n ∧ q = n - k ∧ i = .int .i64 (k : Nat) ∧ xs.length ≤ 10 + k * 4000 ∧ Hid (xs = hdrB ⟨nx, ls, A, n, c, objs⟩ ++ (objs.take k).flatMap wholeB) ∧ Hid (Ext w wr) ∧ Hid (Pack.Writer wr (fun i => g ≤ i) g xs))
  case atStart => exact ⟨0, _, Nat.zero_le _, rfl, rfl, by simp [hdrB, Le.le_length], Lib.hid (by simp), HX4, HW4⟩
  case round =>
    clear HX4 HW4 q4
    obtain ⟨k, xs, hk, rfl, rfl, hxl, HXS, HX, HW⟩ := hrel
    by_cases hlt2 : k < n
    · obtain ⟨ad, o, rfl, ho, hcell, hok⟩ := obj_at (Sh.ok_off H.out.ok) hlt2
      obtain ⟨c0, c1, c2, c3, c4, c5⟩ := hcell.ext HX.out
      have HOB := Lib.hid ho
      have hom := List.mem_of_getElem? ho
      have HFO := Lib.hid (HF.out o hom)
      have hpl := (obj_ok hok).2.2.2
      have HPL := Lib.hid hpl
      have hol := objB_len HFO.out
      have hpn : pN o ≤ 32 := by have := HFO.out.rws.1; have := HFO.out.rws.2; omega
      have hpc : pN o ≤ pC o := (sl_len hpl).2.1
      have hki : ((k : Nat) : Int) < ((n : Nat) : Int) := by omega
      have HRL := Lib.hid (rowB_len HFO.out hsl (HROWS.out o hom))
      have hgs : g ≤ wr.heap.size := by rw [← hG]; exact HX.out.size
      clear hcell hok ho hom hpl
      go_upto_region 8 with (refine RowSt.wpList_put 196 _ _ rfl rfl rfl wr.heap.size #[.int .u32 (num o), .string (name o), .int .i64 (pl1 o), .int .i64 (pl2 o), .int .i64 (pl3 o), .slice (pA o) (pN o) (pC o)] rfl rfl 196 _ (at_new wr _) (by kernel_rfl) rfl (by simp [Value.oneCell']) ?_; intro w9 hb9 hc9)
      have hE9 : Ext wr w9 := (Ext.new wr _).chg hc9 fun i hi => by have hi : i = wr.heap.size := hi; omega
      have hbx : wr.heap.size < w9.heap.size := Pack.lt_of_at hb9
      have HX9 := Lib.hid (HX.out.trans hE9)
      obtain ⟨f0, hf0⟩ : ∃ f0 : Nat → Prop, f0 = fun i => (g ≤ i ∧ i ≠ wr.heap.size) ∧ i < w9.heap.size := ⟨_, rfl⟩
      have hfw : Pack.Writer w9 f0 g xs := by
        have h1 : Pack.Writer wr f0 g xs := by rw [hf0]; exact writer_mono HW.out fun i hi k => ⟨⟨k, by omega⟩, by omega⟩
        exact h1.chg (S' := fun _ => False) (Below.chg hE9) (fun _ _ k => k)
      have HB9 := Lib.hid hb9
      have hcellB : ∀ W, Chg f0 w9.drew W → W.heap[wr.heap.size]? = some (.cells #[.int .u32 (num o), .string (name o), .int .i64 (pl1 o), .int .i64 (pl2 o), .int .i64 (pl3 o), .slice (pA o) (pN o) (pC o)] 196 (0, 0)) := fun W hW => hW.at_ (i := wr.heap.size) (show w9.drew.heap[wr.heap.size]? = _ from hb9) (by rw [hf0]; exact fun k => k.1.2 rfl)
      have z0 : ∀ W, Chg f0 w9.drew W → W.cell? ⟨wr.heap.size, 0, none⟩ = some (.int .u32 (num o)) := fun W hW => blk_cell (i := 0) (hcellB W hW) (Ext.refl _) rfl
      have z1 : ∀ W, Chg f0 w9.drew W → W.cell? ⟨wr.heap.size, 1, none⟩ = some (.string (name o)) := fun W hW => blk_cell (i := 1) (hcellB W hW) (Ext.refl _) rfl
      have z2 : ∀ W, Chg f0 w9.drew W → W.cell? ⟨wr.heap.size, 2, none⟩ = some (.int .i64 (pl1 o)) := fun W hW => blk_cell (i := 2) (hcellB W hW) (Ext.refl _) rfl
      have z3 : ∀ W, Chg f0 w9.drew W → W.cell? ⟨wr.heap.size, 3, none⟩ = some (.int .i64 (pl2 o)) := fun W hW => blk_cell (i := 3) (hcellB W hW) (Ext.refl _) rfl
      have z4 : ∀ W, Chg f0 w9.drew W → W.cell? ⟨wr.heap.size, 4, none⟩ = some (.int .i64 (pl3 o)) := fun W hW => blk_cell (i := 4) (hcellB W hW) (Ext.refl _) rfl
      have W0 : IntKind.u64.wrap (num o) = num o := IntWalk.u64_in _ (by have := HFO.out.num0; have := HFO.out.num1; omega)
      have W1 : IntKind.u64.wrap (pl1 o) = pl1 o := IntWalk.u64_in _ (by have := HFO.out.l0; have := HFO.out.l1; omega)
      have W2 : IntKind.u64.wrap (pl2 o) = pl2 o := IntWalk.u64_in _ (by have := HFO.out.c0; have := HFO.out.c1; omega)
      have W3 : IntKind.u64.wrap (pl3 o) = pl3 o := IntWalk.u64_in _ (by have := HFO.out.p0; have := HFO.out.p1; omega)
      have HFW := Lib.hid hfw
      have HB0 : Hid (∀ i, f0 i → (fun i => g ≤ i ∧ i ≠ wr.heap.size) i ∧ i < w9.drew.heap.size) := Lib.hid (by rw [hf0]; exact fun i hi => hi)
      have HP0 : Hid (∀ W, Chg f0 w9.drew W → ∀ i, W.heap.size ≤ i → g ≤ i ∧ i ≠ wr.heap.size) := Lib.hid fun W hW i hi => by have h1 : w9.heap.size ≤ W.heap.size := hW.size; exact ⟨by omega, by omega⟩
      have HCB := Lib.hid hcellB
      clear hfw hb9 hc9 hf0 c0 c1 c2 c3 c4 c5 hcellB hE9
      refine Lex.wp_region_rw [0, 1, 2, 3, 4, 5, 6, 7, 8, 9, 10, 11, 12, 13, 14, 15, 16, 17, 18, 19, 20, 21, 22, 23] [] f0 24 (wrR (fun i => g ≤ i ∧ i ≠ wr.heap.size) g xs) (.pointer (some ⟨g, 0, none⟩)) [(4, 24), (8, 4), (13, 8), (18, 13), (23, 18)] [(4, wrR (fun i => g ≤ i ∧ i ≠ wr.heap.size) g (xs ++ Le.le 4 (num o))), (7, rdR (name o).size (bytesI (name o))), (8, wrR (fun i => g ≤ i ∧ i ≠ wr.heap.size) g (xs ++ Le.le 4 (num o) ++ textB (name o))), (13, wrR (fun i => g ≤ i ∧ i ≠ wr.heap.size) g (xs ++ Le.le 4 (num o) ++ textB (name o) ++ Le.le 4 (pl1 o))), (18, wrR (fun i => g ≤ i ∧ i ≠ wr.heap.size) g (xs ++ Le.le 4 (num o) ++ textB (name o) ++ Le.le 4 (pl1 o) ++ Le.le 2 (pl2 o))), (23, wrR (fun i => g ≤ i ∧ i ≠ wr.heap.size) g (xs ++ objB o))] (by kernel_rfl) (by kernel_rfl) (by kernel_rfl) (by repeat (first | exact Lex.ok_nilR | refine Lex.ok_consR (by first | exact Lex.rowR_ok | exact Tbl.wrR_ok | exact Tbl.rdR_ok | assumption) ?_)) (by first | exact Tbl.wrR_ok | exact Lex.rowR_ok) ⟨Pack.Writer.chg HFW.out (S' := fun _ => False) (Chg.drew (Chg.refl _ _)) (fun _ _ k => k), HB0.out⟩ (fun i hi => (HB0.out i hi).2) ?_; simp only [Lex.pick, List.getElem?_cons_succ, List.getElem?_cons_zero, List.map_cons, List.map_nil]
      repeat (first | (refine Lex.lexR_skip (by rfl) ?_; simp only [Act.put, List.setIfInBounds_toArray, List.set_cons_zero, List.set_cons_succ]) | (refine Lex.lexR_still (by rfl) (by rfl) ?_; apply Exists.intro; refine ⟨fun W hW => ?_, ?_⟩; (have hE := hW; clear hW; go_simp; try with_reducible rfl); simp only [Act.put, List.setIfInBounds_toArray, List.set_cons_zero, List.set_cons_succ]))
      refine Lex.lexR_loose (by rfl) (by rfl) (fun W hW hAP => ?_) ?_
      · obtain ⟨hwr, hbb⟩ := (hW.2 24 (by kernel_rfl) rfl).2 rfl
        have hP := HP0.out W hW.1
        clear hW hAP
        go_simp
        exact wr_call hbb (fun i hi => ⟨24, by simp, .inr ⟨rfl, hi⟩⟩) hP (num_w hwr (by decide) (by decide) HFO.out.num0 (by have := HFO.out.num1; omega) (by omega) rfl)
      rintro v f1 rfl
      simp only [Act.put, List.setIfInBounds_toArray, List.set_cons_zero, List.set_cons_succ]
      repeat (first | (refine Lex.lexR_skip (by rfl) ?_; simp only [Act.put, List.setIfInBounds_toArray, List.set_cons_zero, List.set_cons_succ]) | (refine Lex.lexR_still (by rfl) (by rfl) ?_; apply Exists.intro; refine ⟨fun W hW => ?_, ?_⟩; (have hE := hW; clear hW; go_simp; try with_reducible rfl); simp only [Act.put, List.setIfInBounds_toArray, List.set_cons_zero, List.set_cons_succ]))
      refine Lex.lexR_loose (by rfl) (by rfl) (fun W hW hAP => ?_) ?_
      · clear hW hAP
        obtain ⟨cc, W', hrun, he, hrd, hlt⟩ := conv_str W (name o) (by have := HFO.out.nm; omega)
        go_simp
        exact ⟨⟨_, _, rfl⟩, Below.chg he, fun i => i = W.heap.size, fun A c e => by cases e; exact ⟨hrd, fun ad ha _ => by cases ha; rfl⟩, fun i hi => .inl (by have hi : i = W.heap.size := hi; subst hi; exact ⟨Nat.le_refl _, hlt⟩)⟩
      rintro v f2 ⟨A2, c2, rfl⟩
      simp only [Act.put, List.setIfInBounds_toArray, List.set_cons_zero, List.set_cons_succ]
      refine Lex.lexR_loose (by rfl) (by rfl) (fun W hW hAP => ?_) ?_
      · obtain ⟨hwr, hbb⟩ := (hW.2 4 (by kernel_rfl) rfl).1.2 rfl
        obtain ⟨hrd, hrf⟩ := (hW.2 7 (by kernel_rfl) rfl).2 rfl _ _ rfl
        have hsep : ∀ i, f1 i → ¬ f2 i := fun i h1 h2 => hAP 4 7 i (by kernel_rfl) rfl (by kernel_rfl) rfl (by decide) (.inl (.inr ⟨rfl, h1⟩)) (.inr ⟨rfl, h2⟩)
        have hP := HP0.out W hW.1
        clear hW hAP
        go_simp
        refine wr_call hbb (fun i hi => ⟨4, by simp, .inl (.inr ⟨rfl, hi⟩)⟩) hP ((wtext_calls (fun i => f1 i ∨ W.heap.size ≤ i) g (xs ++ Le.le 4 (num o)) A2 (name o).size c2 (bytesI (name o)) W (fun i hi => .inr hi) (writer_mono hwr fun _ _ k => .inl k) hrd (fun ad ha h0 hS => ?_) (by simp [Le.le_length]; omega) (by have := HFO.out.nm; omega)).mono fun e w' he => by simpa only [List.append_assoc, textB] using he)
        rcases hS with hS | hS
        · exact hsep _ hS (hrf ad ha h0)
        · subst ha
          have h1 := hrd.lt h0
          omega
      rintro v f3 rfl
      simp only [Act.put, List.setIfInBounds_toArray, List.set_cons_zero, List.set_cons_succ]
      repeat (first | (refine Lex.lexR_skip (by rfl) ?_; simp only [Act.put, List.setIfInBounds_toArray, List.set_cons_zero, List.set_cons_succ]) | (refine Lex.lexR_still (by rfl) (by rfl) ?_; apply Exists.intro; refine ⟨fun W hW => ?_, ?_⟩; (have hE := hW; clear hW; go_simp; try with_reducible rfl); simp only [Act.put, List.setIfInBounds_toArray, List.set_cons_zero, List.set_cons_succ]))
      refine Lex.lexR_loose (by rfl) (by rfl) (fun W hW hAP => ?_) ?_
      · obtain ⟨hwr, hbb⟩ := (hW.2 8 (by kernel_rfl) rfl).2 rfl
        have hP := HP0.out W hW.1
        clear hW hAP
        go_simp
        exact wr_call hbb (fun i hi => ⟨8, by simp, .inr ⟨rfl, hi⟩⟩) hP (num_w hwr (by decide) (by decide) HFO.out.l0 (by have := HFO.out.l1; omega) (by have := HFO.out.nm; simp [Le.le_length, textB, bytesI_len]; omega) (by simp only [List.append_assoc]; rfl))
      rintro v f4 rfl
      simp only [Act.put, List.setIfInBounds_toArray, List.set_cons_zero, List.set_cons_succ]
      repeat (first | (refine Lex.lexR_skip (by rfl) ?_; simp only [Act.put, List.setIfInBounds_toArray, List.set_cons_zero, List.set_cons_succ]) | (refine Lex.lexR_still (by rfl) (by rfl) ?_; apply Exists.intro; refine ⟨fun W hW => ?_, ?_⟩; (have hE := hW; clear hW; go_simp; try with_reducible rfl); simp only [Act.put, List.setIfInBounds_toArray, List.set_cons_zero, List.set_cons_succ]))
      refine Lex.lexR_loose (by rfl) (by rfl) (fun W hW hAP => ?_) ?_
      · obtain ⟨hwr, hbb⟩ := (hW.2 13 (by kernel_rfl) rfl).2 rfl
        have hP := HP0.out W hW.1
        clear hW hAP
        go_simp
        exact wr_call hbb (fun i hi => ⟨13, by simp, .inr ⟨rfl, hi⟩⟩) hP (num_w hwr (by decide) (by decide) HFO.out.c0 (by have := HFO.out.c1; omega) (by have := HFO.out.nm; simp [Le.le_length, textB, bytesI_len]; omega) (by simp only [List.append_assoc]; rfl))
      rintro v f5 rfl
      simp only [Act.put, List.setIfInBounds_toArray, List.set_cons_zero, List.set_cons_succ]
      repeat (first | (refine Lex.lexR_skip (by rfl) ?_; simp only [Act.put, List.setIfInBounds_toArray, List.set_cons_zero, List.set_cons_succ]) | (refine Lex.lexR_still (by rfl) (by rfl) ?_; apply Exists.intro; refine ⟨fun W hW => ?_, ?_⟩; (have hE := hW; clear hW; go_simp; try with_reducible rfl); simp only [Act.put, List.setIfInBounds_toArray, List.set_cons_zero, List.set_cons_succ]))
      refine Lex.lexR_loose (by rfl) (by rfl) (fun W hW hAP => ?_) ?_
      · obtain ⟨hwr, hbb⟩ := (hW.2 18 (by kernel_rfl) rfl).2 rfl
        have hP := HP0.out W hW.1
        clear hW hAP
        go_simp
        exact wr_call hbb (fun i hi => ⟨18, by simp, .inr ⟨rfl, hi⟩⟩) hP (num_w hwr (by decide) (by decide) HFO.out.p0 (by have := HFO.out.p1; omega) (by have := HFO.out.nm; simp [Le.le_length, textB, bytesI_len]; omega) (by simp [objB]))
      rintro v f6 rfl
      simp only [Act.put, List.setIfInBounds_toArray, List.set_cons_zero, List.set_cons_succ]
      repeat (first | (refine Lex.lexR_skip (by rfl) ?_; simp only [Act.put, List.setIfInBounds_toArray, List.set_cons_zero, List.set_cons_succ]) | (refine Lex.lexR_still (by rfl) (by rfl) ?_; apply Exists.intro; refine ⟨fun W hW => ?_, ?_⟩; (have hE := hW; clear hW; go_simp; try with_reducible rfl); simp only [Act.put, List.setIfInBounds_toArray, List.set_cons_zero, List.set_cons_succ]))
      refine Lex.lexR_nil (fun W hW hF => ?_)
      obtain ⟨hwr3, hbb3⟩ := (hF 23 rfl).2 rfl
      have HX4 : Hid (Ext w W) := Lib.hid (HX9.out.chg ((Chg.drew (Chg.refl _ _)).trans hW) fun i hi => by have := (HB0.out i hi).1.1; omega)
      have HW4 : Hid (Pack.Writer W (fun i => g ≤ i) g (xs ++ objB o)) := Lib.hid (writer_mono hwr3 fun i _ hi => (hbb3 i hi).1.1)
      have x5 : W.cell? ⟨wr.heap.size, 5, none⟩ = some (.slice (pA o) (pN o) (pC o)) := blk_cell (i := 5) (HCB.out W hW) (Ext.refl _) rfl
      clear hW hF hwr3 hbb3 z0 z1 z2 z3 z4 HFW HB0 HP0 HCB HB9
      refine Lex.onlyN_intro ?_
      generalize wr.heap.size = bx at *
      obtain ⟨X, hX⟩ : ∃ X, X = xs ++ objB o := ⟨_, rfl⟩
      rw [← hX] at HW4
      have hXl : X.length ≤ 88 + k * 4000 := by rw [hX, List.length_append]; omega
      have HXX := Lib.hid hX
      clear hX
      go_wp2_with fail
      obtain ⟨wo, hwo⟩ : ∃ wo, wo = W := ⟨_, rfl⟩
      subst hwo
      clear x5
      generalize hPA : pA o = PA at HPL ⊢
      go_loopg [70] (pN o) (fun q i wi => ∃ (j : Nat) (ys : List Int), j ≤ pN o ∧ q = pN o - j ∧ i = .int .i64 (j : Nat) ∧ ys.length ≤ 88 + k * 4000 + j * 120 ∧ Hid (ys = X ++ ((rows o).take j).flatMap rowB) ∧ Hid (Ext w wi) ∧ Hid (Pack.Writer wi (fun i => g ≤ i) g ys))
      case atStart => exact ⟨0, X, Nat.zero_le _, rfl, rfl, by omega, Lib.hid (by simp), HX4, HW4⟩
      case round =>
        clear HX HW HX4 HW4 HX9
        obtain ⟨j, ys, hj, rfl, rfl, hyl, HYS, HX, HW⟩ := hrel
        by_cases hlt3 : j < pN o
        · obtain ⟨adp, r, rfl, hr0, hrow, hrok⟩ := row_at HPL.out hlt3
          have hrc := HX.out.cell_ hrow
          have hrm := List.mem_of_getElem? hr0
          have hre := HFO.out.each r hrm
          have hrs := hre.1
          have HPE := Lib.hid hre.2
          have HRB := Lib.hid (HRL.out r hrm)
          have HROK := Lib.hid hrok
          have HR0 := Lib.hid hr0
          have hrcap : rN r ≤ rC r := (sl_len hrok).2.1
          have hji : ((j : Nat) : Int) < ((pN o : Nat) : Int) := by omega
          clear hrow hrok hr0 hrm hre
          go_wp2_with fail
          obtain ⟨w2, hw2⟩ : ∃ w2, w2 = wr := ⟨_, rfl⟩
          subst hw2
          clear hrc
          generalize hRA : rA r = RA at HROK ⊢
          go_loopg [76] (rN r) (fun q i wi => ∃ (m : Nat) (zs : List Int), m ≤ rN r ∧ q = rN r - m ∧ i = .int .i64 (m : Nat) ∧ zs.length ≤ 88 + k * 4000 + j * 120 + m * 5 ∧ Hid (zs = ys ++ ((rP r).take m).flatMap placeB) ∧ Hid (Ext w wi) ∧ Hid (Pack.Writer wi (fun i => g ≤ i) g zs))
          case atStart => exact ⟨0, ys, Nat.zero_le _, rfl, rfl, by omega, Lib.hid (by simp), HX, HW⟩
          case round =>
            clear HX HW
            obtain ⟨m, zs, hm, rfl, rfl, hzl, HZS, HX, HW⟩ := hrel
            by_cases hlt4 : m < rN r
            · obtain ⟨ap, p, rfl, hp, hp0, hp1, _, _⟩ := place_at HROK.out hlt4
              have HPP := Lib.hid (HPE.out p (List.mem_of_getElem? hp))
              have d0 := HX.out.cell_ hp0
              have d1 := HX.out.cell_ hp1
              have HP := Lib.hid hp
              have hmi : ((m : Nat) : Int) < ((rN r : Nat) : Int) := by omega
              have hgs : g ≤ wr.heap.size := by rw [← hG]; exact HX.out.size
              clear hp hp0 hp1
              go_upto_region 15 with (refine RowSt.wpList_put 80 _ _ rfl rfl rfl wr.heap.size #[.int .i64 (node p), .int .u32 (gen p)] rfl rfl 80 _ (at_new wr _) (by kernel_rfl) rfl (by simp [Value.oneCell']) ?_; intro w9 hb9 hc9)
              have hE9 : Ext wr w9 := (Ext.new wr _).chg hc9 fun i hi => by have hi : i = wr.heap.size := hi; omega
              have hbx : wr.heap.size < w9.heap.size := Pack.lt_of_at hb9
              have HX9 := Lib.hid (HX.out.trans hE9)
              obtain ⟨f0, hf0⟩ : ∃ f0 : Nat → Prop, f0 = fun i => (g ≤ i ∧ i ≠ wr.heap.size) ∧ i < w9.heap.size := ⟨_, rfl⟩
              have hfw : Pack.Writer w9 f0 g zs := by
                have h1 : Pack.Writer wr f0 g zs := by rw [hf0]; exact writer_mono HW.out fun i hi k => ⟨⟨k, by omega⟩, by omega⟩
                exact h1.chg (S' := fun _ => False) (Below.chg hE9) (fun _ _ k => k)
              have hcellB : ∀ W, Chg f0 w9.drew W → W.heap[wr.heap.size]? = some (.cells #[.int .i64 (node p), .int .u32 (gen p)] 80 (0, 0)) := fun W hW => hW.at_ (i := wr.heap.size) (show w9.drew.heap[wr.heap.size]? = _ from hb9) (by rw [hf0]; exact fun k => k.1.2 rfl)
              have z0 : ∀ W, Chg f0 w9.drew W → W.cell? ⟨wr.heap.size, 0, none⟩ = some (.int .i64 (node p)) := fun W hW => blk_cell (i := 0) (hcellB W hW) (Ext.refl _) rfl
              have z1 : ∀ W, Chg f0 w9.drew W → W.cell? ⟨wr.heap.size, 1, none⟩ = some (.int .u32 (gen p)) := fun W hW => blk_cell (i := 1) (hcellB W hW) (Ext.refl _) rfl
              have W0 : IntKind.u64.wrap (node p) = node p := IntWalk.u64_in _ (by have := HPP.out; omega)
              have W1 : IntKind.u64.wrap (gen p) = gen p := IntWalk.u64_in _ (by have := HPP.out; omega)
              have HFW := Lib.hid hfw
              have HB0 : Hid (∀ i, f0 i → (fun i => g ≤ i ∧ i ≠ wr.heap.size) i ∧ i < w9.drew.heap.size) := Lib.hid (by rw [hf0]; exact fun i hi => hi)
              have HP0 : Hid (∀ W, Chg f0 w9.drew W → ∀ i, W.heap.size ≤ i → g ≤ i ∧ i ≠ wr.heap.size) := Lib.hid fun W hW i hi => by have h1 : w9.heap.size ≤ W.heap.size := hW.size; exact ⟨by omega, by omega⟩
              clear hfw hb9 hc9 hf0 d0 d1 hcellB hE9
              refine Lex.wp_region_rw [0, 1, 2, 3, 4, 5, 6, 7, 8] [] f0 9 (wrR (fun i => g ≤ i ∧ i ≠ wr.heap.size) g zs) (.pointer (some ⟨g, 0, none⟩)) [(4, 9), (8, 4)] [(4, wrR (fun i => g ≤ i ∧ i ≠ wr.heap.size) g (zs ++ Le.le 1 (node p))), (8, wrR (fun i => g ≤ i ∧ i ≠ wr.heap.size) g (zs ++ placeB p))] (by kernel_rfl) (by kernel_rfl) (by kernel_rfl) (by repeat (first | exact Lex.ok_nilR | refine Lex.ok_consR (by first | exact Lex.rowR_ok | exact Tbl.wrR_ok | exact Tbl.rdR_ok | assumption) ?_)) (by first | exact Tbl.wrR_ok | exact Lex.rowR_ok) ⟨Pack.Writer.chg HFW.out (S' := fun _ => False) (Chg.drew (Chg.refl _ _)) (fun _ _ k => k), HB0.out⟩ (fun i hi => (HB0.out i hi).2) ?_; simp only [Lex.pick, List.getElem?_cons_succ, List.getElem?_cons_zero, List.map_cons, List.map_nil]
              repeat (first | (refine Lex.lexR_skip (by rfl) ?_; simp only [Act.put, List.setIfInBounds_toArray, List.set_cons_zero, List.set_cons_succ]) | (refine Lex.lexR_still (by rfl) (by rfl) ?_; apply Exists.intro; refine ⟨fun W hW => ?_, ?_⟩; (have hE := hW; clear hW; go_simp; try with_reducible rfl); simp only [Act.put, List.setIfInBounds_toArray, List.set_cons_zero, List.set_cons_succ]))
              refine Lex.lexR_loose (by rfl) (by rfl) (fun W hW hAP => ?_) ?_
              · obtain ⟨hwr, hbb⟩ := (hW.2 9 (by kernel_rfl) rfl).2 rfl
                have hP := HP0.out W hW.1
                clear hW hAP
                go_simp
                exact wr_call hbb (fun i hi => ⟨9, by simp, .inr ⟨rfl, hi⟩⟩) hP (num_w hwr (by decide) (by decide) HPP.out.1 (by have := HPP.out; omega) (by omega) rfl)
              rintro v f1 rfl
              simp only [Act.put, List.setIfInBounds_toArray, List.set_cons_zero, List.set_cons_succ]
              repeat (first | (refine Lex.lexR_skip (by rfl) ?_; simp only [Act.put, List.setIfInBounds_toArray, List.set_cons_zero, List.set_cons_succ]) | (refine Lex.lexR_still (by rfl) (by rfl) ?_; apply Exists.intro; refine ⟨fun W hW => ?_, ?_⟩; (have hE := hW; clear hW; go_simp; try with_reducible rfl); simp only [Act.put, List.setIfInBounds_toArray, List.set_cons_zero, List.set_cons_succ]))
              refine Lex.lexR_loose (by rfl) (by rfl) (fun W hW hAP => ?_) ?_
              · obtain ⟨hwr, hbb⟩ := (hW.2 4 (by kernel_rfl) rfl).2 rfl
                have hP := HP0.out W hW.1
                clear hW hAP
                go_simp
                exact wr_call hbb (fun i hi => ⟨4, by simp, .inr ⟨rfl, hi⟩⟩) hP (num_w hwr (by decide) (by decide) HPP.out.2.2.1 (by have := HPP.out; omega) (by simp [Le.le_length]; omega) (by simp [placeB]))
              rintro v f2 rfl
              simp only [Act.put, List.setIfInBounds_toArray, List.set_cons_zero, List.set_cons_succ]
              repeat (first | (refine Lex.lexR_skip (by rfl) ?_; simp only [Act.put, List.setIfInBounds_toArray, List.set_cons_zero, List.set_cons_succ]) | (refine Lex.lexR_still (by rfl) (by rfl) ?_; apply Exists.intro; refine ⟨fun W hW => ?_, ?_⟩; (have hE := hW; clear hW; go_simp; try with_reducible rfl); simp only [Act.put, List.setIfInBounds_toArray, List.set_cons_zero, List.set_cons_succ]))
              refine Lex.lexR_nil (fun W hW hF => ?_)
              obtain ⟨hwr3, hbb3⟩ := (hF 8 rfl).2 rfl
              have HX4 : Hid (Ext w W) := Lib.hid (HX9.out.chg ((Chg.drew (Chg.refl _ _)).trans hW) fun i hi => by have := (HB0.out i hi).1.1; omega)
              have HW4 : Hid (Pack.Writer W (fun i => g ≤ i) g (zs ++ placeB p)) := Lib.hid (writer_mono hwr3 fun i _ hi => (hbb3 i hi).1.1)
              clear hW hF hwr3 hbb3 z0 z1 HFW HB0 HP0
              refine Lex.onlyN_intro ?_
              go_wp2_with fail
              go_roundg (rN r - (m + 1))
              case measure => omega
              case rel => exact ⟨m + 1, zs ++ placeB p, by omega, rfl, by first | rfl | go_num, by simp [placeB, Le.le_length]; omega, Lib.hid (by rw [HZS.out, List.take_add_one, HP.out]; simp), HX4, HW4⟩
            · obtain rfl : m = rN r := by omega
              have HZ2 : Hid (zs = X ++ ((rows o).take (j + 1)).flatMap rowB) := Lib.hid (by
                rw [HZS.out, HYS.out, List.take_of_length_le (l := rP r) (Nat.le_of_eq (sl_len HROK.out).1), List.take_add_one, HR0.out]
                simp [rowB])
              go_wp2_with fail
              go_roundg (pN o - (j + 1))
              case measure => omega
              case rel => exact ⟨j + 1, zs, by omega, rfl, by first | rfl | go_num, by omega, HZ2, HX, HW⟩
        · obtain rfl : j = pN o := by omega
          have HZ2 : Hid (ys = hdrB ⟨nx, ls, some ad, n, c, objs⟩ ++ (objs.take (k + 1)).flatMap wholeB) := Lib.hid (by
            rw [HYS.out, HXX.out, HXS.out, List.take_of_length_le (l := rows o) (Nat.le_of_eq HFO.out.rws.2), List.take_add_one, HOB.out]
            simp [wholeB, hdrB])
          go_wp2_with fail
          go_roundg (n - (k + 1))
          case measure => omega
          case rel => exact ⟨k + 1, ys, by omega, rfl, by first | rfl | go_num, by omega, HZ2, HX, HW⟩
    · obtain rfl : k = n := by omega
      have HZ2 : Hid (xs = tableB ⟨nx, ls, A, k, c, objs⟩) := Lib.hid (by
        rw [HXS.out, List.take_of_length_le (by rw [HL.out]; exact Nat.le_refl _)]
        rfl)
      go_wp2_with fail
      refine (Pack.bytes_calls (fun i => g ≤ i) g xs wr HW.out (by omega)).mono ?_
      rintro e w9 ⟨A9, c9, rfl, ho9, hb9⟩
      have HO9 := Lib.hid ho9
      have HB9 := Lib.hid hb9
      clear ho9 hb9
      go_wp2_with fail
      go_ret
      rw [← HZ2.out]
      exact ⟨HX.out.trans HB9.out, A9, c9, rfl, HO9.out.mono fun i _ hi => Nat.le_trans HX.out.size hi⟩
end Go.Proofs.Ytipmkddcdnbihaa.Tbl
/- A table's bytes: the document's; walked. -/
namespace Go.Proofs.Ytipmkddcdnbihaa.Tbl
open Go.RowKit Base Step Vec Shape Erase
theorem le_wf (k : Nat) (n : Int) : ∀ x ∈ Le.le k n, (Lit.int .u8 x).wf = true := fun x hx => by have := Le.le_u8 _ _ x hx; exact u8_wf this.1 this.2
theorem textB_len (s : ByteArray) : (textB s).length = 2 + s.size := by simp [textB, Le.le_length, bytesI_len]
set_option maxRecDepth 100000 in
set_option maxHeartbeats 1000000 in
theorem rtext_calls (A : Option Addr) (m c : Nat) (ys : List Int) (w : World) (hr : Rd w .u8 A m ys) (hm : m ≤ 1000) :
    Calls Try.prog 104 #[.slice A m c] w fun e w' => ∃ A' c', e = .returned (.slice A' (2 + m) c') ∧ New w w' 5 1 A' (2 + m) c' (nums .u8 (Le.le 2 m ++ ys)) ∧ Ext w w' := by
  have HR := Lib.hid hr
  have W0 : IntKind.u64.wrap ((m : Nat) : Int) = ((m : Nat) : Int) := IntWalk.u64_in _ (by omega)
  clear hr
  go_enter Try.func104, Try.ntmps104
  go_wp2_with fail
  refine (Ref01.num_calls ((m : Nat) : Int) 2 w (by decide) (by decide) (by omega) (by omega)).mono ?_
  rintro e w1 ⟨A1, c1, rfl, ho1, hb1⟩
  have HB1 := Lib.hid hb1
  have HR1 := Lib.hid (HR.out.below hb1)
  have HR2 := Lib.hid (ho1.rd (le_wf 2 m))
  clear ho1 hb1
  have hfl : Ref01.flat [(A1, 2, c1, Le.le 2 ((m : Nat) : Int)), (A, m, c, ys)] = Le.le 2 ((m : Nat) : Int) ++ ys := by simp [Ref01.flat]
  have hlen : (Le.le 2 ((m : Nat) : Int) ++ ys).length = 2 + m := by rw [List.length_append, Le.le_length, HR.out.len]
  go_wp2_with fail
  refine (Ref01.join_calls _ 2 2 [(A1, 2, c1, Le.le 2 ((m : Nat) : Int)), (A, m, c, ys)] _ (Ref01.rdrows_new w1 _ [(A1, 2, c1, Le.le 2 ((m : Nat) : Int)), (A, m, c, ys)] _ rfl (by
    intro r hr
    simp only [List.mem_cons, List.not_mem_nil, or_false] at hr
    rcases hr with rfl | rfl
    · exact HR2.out
    · exact HR1.out)) (by omega) (by rw [hfl, hlen]; omega)).mono ?_
  rw [hfl, hlen]
  rintro e w2 ⟨A2, c2, rfl, ho2, hb2⟩
  have HO2 := Lib.hid ho2
  have HB2 := Lib.hid hb2
  clear ho2 hb2 hfl hlen
  go_wp2_with fail
  go_ret
  have hE : Ext w (w1.alloc (.cells #[.slice A1 2 c1, .slice A m c] 55)) := Ext.trans HB1.out (Ext.new w1 _)
  exact ⟨A2, c2, rfl, HO2.out.mono fun i _ hi => Nat.le_trans hE.size hi, hE.trans HB2.out⟩
theorem textB_wf (s : ByteArray) : ∀ x ∈ textB s, (Lit.int .u8 x).wf = true := fun x hx => (List.mem_append.1 hx).elim (le_wf 2 _ x) (bytesI_wf _ x)
theorem flat_wf {α : Type} {f : α → List Int} (h : ∀ a, ∀ x ∈ f a, (Lit.int .u8 x).wf = true) (l : List α) : ∀ x ∈ l.flatMap f, (Lit.int .u8 x).wf = true := fun x hx => by
  obtain ⟨a, _, hx⟩ := List.mem_flatMap.1 hx
  exact h a x hx
theorem app_wf {a b : List Int} (ha : ∀ x ∈ a, (Lit.int .u8 x).wf = true) (hb : ∀ x ∈ b, (Lit.int .u8 x).wf = true) : ∀ x ∈ a ++ b, (Lit.int .u8 x).wf = true := fun x hx => (List.mem_append.1 hx).elim (ha x) (hb x)
theorem tableB_wf (t : Tb) (l : List Obj) {ys : List Int} (hy : ys = hdrB t) : ∀ x ∈ ys ++ l.flatMap wholeB, (Lit.int .u8 x).wf = true := by
  subst hy
  refine app_wf (app_wf (app_wf (le_wf _ _) (le_wf _ _)) (le_wf _ _)) (flat_wf (fun o => ?_) l)
  exact app_wf (app_wf (app_wf (app_wf (app_wf (le_wf _ _) (textB_wf _)) (le_wf _ _)) (le_wf _ _)) (le_wf _ _)) (flat_wf (fun r => flat_wf (fun p => app_wf (le_wf _ _) (le_wf _ _)) _) _)
theorem rdrows_at {W : World} {g : Nat} {rows : List (Option Addr × Nat × Nat × List Int)} {C : Array Value} {e : TypeId} {fr : Nat × Nat} (hb : W.heap[g]? = some (.cells C e fr)) (hC : C.toList = rows.map fun r => .slice r.1 r.2.1 r.2.2.1) (h : ∀ r ∈ rows, Rd W .u8 r.1 r.2.1 r.2.2.2) : Ref01.RdRows W (some ⟨g, 0, none⟩) rows.length rows :=
  ⟨rfl, fun _ => ⟨_, rfl, fun j r hr => ⟨World.news_of_block hb j _ (by rw [hC]; simp [hr]), h r (List.mem_of_getElem? hr)⟩⟩⟩
set_option maxRecDepth 100000 in
set_option maxHeartbeats 8000000 in
theorem rBytes_calls (sl nd : Nat) (t : Tb) (w : World) (h : Doc w t) (hf : ∀ o ∈ t.objs, FineO nd sl o) (h64 : t.objs.length ≤ 64) (hsl : sl ≤ 24) (hnd : nd ≤ 32) (hx0 : 0 ≤ t.nx) (hx1 : t.nx ≤ 4294967295) (hl0 : 0 ≤ t.ls) (hl1 : t.ls ≤ 4294967295) :
    Calls Try.prog 48 #[tabV sl nd t] w fun e w' => Ext w w' ∧ ∃ A c, e = .returned (.slice A (tableB t).length c) ∧ New w w' 5 1 A (tableB t).length c (nums .u8 (tableB t)) := by
  obtain ⟨nx, ls, A, n, c, objs⟩ := t
  have h : (Sh.sl objS).ok w (A, n, c, objs) := h
  have hx0 : 0 ≤ nx := hx0
  have hx1 : nx ≤ 4294967295 := hx1
  have hl0 : 0 ≤ ls := hl0
  have hl1 : ls ≤ 4294967295 := hl1
  have H := Lib.hid h
  have HF : Hid (∀ o ∈ objs, FineO nd sl o) := Lib.hid hf
  obtain ⟨hl, hnc, _, _⟩ := sl_len h
  have hn64 : n ≤ 64 := by have h64 : objs.length ≤ 64 := h64; omega
  have HL := Lib.hid hl
  have HROWS := Lib.hid (objs_rows h)
  have e0 := Ext.new w (.cells #[.int .i64 sl, .int .i64 nd, .int .u32 nx, .int .u32 ls, .slice A n c] 95)
  have hb := at_new w (.cells #[.int .i64 sl, .int .i64 nd, .int .u32 nx, .int .u32 ls, .slice A n c] 95)
  clear h hf hl h64
  go_enter Try.func48, Try.ntmps48
  go_upto_region 1 with fail
  generalize w.alloc (.cells #[.int .i64 sl, .int .i64 nd, .int .u32 nx, .int .u32 ls, .slice A n c] 95) = w1 at *
  have HB := Lib.hid hb
  have HE1 := Lib.hid e0
  have z2 : ∀ W, Ext w1.drew W → W.cell? ⟨w.heap.size, 2, none⟩ = some (.int .u32 nx) := fun W hW => blk_cell (i := 2) hb (drew_ext hW) rfl
  have z3 : ∀ W, Ext w1.drew W → W.cell? ⟨w.heap.size, 3, none⟩ = some (.int .u32 ls) := fun W hW => blk_cell (i := 3) hb (drew_ext hW) rfl
  have z4 : ∀ W, Ext w1.drew W → W.cell? ⟨w.heap.size, 4, none⟩ = some (.slice A n c) := fun W hW => blk_cell (i := 4) hb (drew_ext hW) rfl
  have W0 : IntKind.u64.wrap nx = nx := IntWalk.u64_in _ (by omega)
  have W1 : IntKind.u64.wrap ls = ls := IntWalk.u64_in _ (by omega)
  have W2 : IntKind.u8.wrap ((n : Nat) : Int) = ((n : Nat) : Int) := IntWalk.u8_in _ (by omega)
  have hle1 : Le.le 1 ((n : Nat) : Int) = [((n : Nat) : Int)] := by simp [Le.le]; omega
  clear hb e0
  refine Lex.wp_region_r [0, 1, 2, 3, 4, 5, 6, 7, 8, 9, 10, 11, 12, 13, 14, 15] [] [(8, 3), (14, 8)] [(3, Lex.rowR w1.drew 5 1 4 (nums .u8 (Le.le 4 nx))), (7, Lex.rowR w1.drew 5 1 4 (nums .u8 (Le.le 4 ls))), (8, Lex.rowR w1.drew 5 1 8 (nums .u8 (Le.le 4 nx) ++ nums .u8 (Le.le 4 ls))), (13, Lex.rowR w1.drew 5 1 1 [.int .u8 ((n : Nat) : Int)]), (14, Lex.rowR w1.drew 5 1 9 (nums .u8 (hdrB ⟨nx, ls, A, n, c, objs⟩)))] (by kernel_rfl) (by kernel_rfl) (by kernel_rfl) (by repeat (first | exact Lex.ok_nilR | refine Lex.ok_consR (by first | exact Lex.rowR_ok | exact Tbl.rdR_ok | assumption) ?_)) ?_; simp only [Lex.pick, List.getElem?_cons_succ, List.getElem?_cons_zero, List.map_cons, List.map_nil]
  repeat (first | (refine Lex.lexR_skip (by rfl) ?_; simp only [Act.put, List.setIfInBounds_toArray, List.set_cons_zero, List.set_cons_succ]) | (refine Lex.lexR_still (by rfl) (by rfl) ?_; apply Exists.intro; refine ⟨fun W hW => ?_, ?_⟩; (have hE := hW; have hE2 := Lex.ext_drew hE; clear hW; go_simp; try with_reducible rfl); simp only [Act.put, List.setIfInBounds_toArray, List.set_cons_zero, List.set_cons_succ]))
  refine Lex.lexR_loose (by rfl) (by rfl) (fun W hW hAP => ?_) ?_
  · have hE := hW.1
    clear hW hAP
    go_simp
    refine (Ref01.num_calls nx 4 W (by decide) (by decide) hx0 (by omega)).mono ?_
    rintro e w' ⟨A', c', rfl, ho, hb⟩
    exact ⟨_, rfl, Lex.rowR_new hE.size hb ho⟩
  rintro v f1 ⟨A1, c1, rfl⟩
  simp only [Act.put, List.setIfInBounds_toArray, List.set_cons_zero, List.set_cons_succ]
  repeat (first | (refine Lex.lexR_skip (by rfl) ?_; simp only [Act.put, List.setIfInBounds_toArray, List.set_cons_zero, List.set_cons_succ]) | (refine Lex.lexR_still (by rfl) (by rfl) ?_; apply Exists.intro; refine ⟨fun W hW => ?_, ?_⟩; (have hE := hW; have hE2 := Lex.ext_drew hE; clear hW; go_simp; try with_reducible rfl); simp only [Act.put, List.setIfInBounds_toArray, List.set_cons_zero, List.set_cons_succ]))
  refine Lex.lexR_loose (by rfl) (by rfl) (fun W hW hAP => ?_) ?_
  · have hE := hW.1
    clear hW hAP
    go_simp
    refine (Ref01.num_calls ls 4 W (by decide) (by decide) hl0 (by omega)).mono ?_
    rintro e w' ⟨A', c', rfl, ho, hb⟩
    exact ⟨_, rfl, Lex.rowR_new hE.size hb ho⟩
  rintro v f2 ⟨A2, c2, rfl⟩
  simp only [Act.put, List.setIfInBounds_toArray, List.set_cons_zero, List.set_cons_succ]
  refine Lex.lexR_loose (by rfl) (by rfl) (fun W hW hAP => ?_) ?_
  · obtain ⟨hown, hfo⟩ := ((hW.2 3 (by kernel_rfl) rfl).1.2 rfl) _ _ rfl
    obtain ⟨hrd, _⟩ := ((hW.2 7 (by kernel_rfl) rfl).2 rfl) _ _ rfl
    have hE := hW.1
    clear hW hAP
    show Lex.looseR _ (Lex.CF _ _ _) _ (Lex.rowR w1.drew 5 1 8 (nums .u8 (Le.le 4 nx) ++ nums .u8 (Le.le 4 ls))) _
    refine Lex.app_looseR (n := 4) (m := 4) (.tmp 11) (.tmp 15) _ rfl 5 _ 1 1 Try.underlying55 Pack.info_u8 rfl (by decide) (by decide) rfl hown ?_ rfl (by simp [nums, Le.le_length]) (fun h => by subst h; have := hrd.cap.2 rfl; have := hrd.cap.1; omega) (Lex.own_cells hrd) (fun u hu => by obtain ⟨x, _, rfl⟩ := List.mem_map.1 hu; rfl) (by omega) hE.size rfl rfl
    exact fun i hi => ⟨3, by simp, .inl (.inr ⟨rfl, hfo i hi⟩)⟩
  rintro v f3 ⟨A3, c3, rfl⟩
  simp only [Act.put, List.setIfInBounds_toArray, List.set_cons_zero, List.set_cons_succ]
  repeat (first | (refine Lex.lexR_skip (by rfl) ?_; simp only [Act.put, List.setIfInBounds_toArray, List.set_cons_zero, List.set_cons_succ]) | (refine Lex.lexR_still (by rfl) (by rfl) ?_; apply Exists.intro; refine ⟨fun W hW => ?_, ?_⟩; (have hE := hW; have hE2 := Lex.ext_drew hE; clear hW; go_simp; try with_reducible rfl); simp only [Act.put, List.setIfInBounds_toArray, List.set_cons_zero, List.set_cons_succ]))
  refine Lex.lexR_loose (by rfl) (by rfl) (fun W hW hAP => ?_) ?_
  · have hE := hW.1
    clear hW hAP
    go_simp
    exact Lex.rowR_new hE.size (Ext.new _ _) (Lex.own_lit (by simp) (by decide))
  rintro v f4 ⟨A4, c4, rfl⟩
  simp only [Act.put, List.setIfInBounds_toArray, List.set_cons_zero, List.set_cons_succ]
  refine Lex.lexR_loose (by rfl) (by rfl) (fun W hW hAP => ?_) ?_
  · obtain ⟨hown, hfo⟩ := ((hW.2 8 (by kernel_rfl) rfl).1.2 rfl) _ _ rfl
    obtain ⟨hrd, _⟩ := ((hW.2 13 (by kernel_rfl) rfl).2 rfl) _ _ rfl
    have hE := hW.1
    clear hW hAP
    show Lex.looseR _ (Lex.CF _ _ _) _ (Lex.rowR w1.drew 5 1 9 (nums .u8 (hdrB ⟨nx, ls, A, n, c, objs⟩))) _
    refine Lex.app_looseR (n := 8) (m := 1) (xs := nums .u8 (Le.le 4 nx) ++ nums .u8 (Le.le 4 ls)) (ys := nums .u8 (hdrB ⟨nx, ls, A, n, c, objs⟩)) (.tmp 16) (.tmp 21) _ rfl 5 _ 1 1 Try.underlying55 Pack.info_u8 rfl (by decide) (by decide) rfl hown ?_ rfl rfl (fun h => by subst h; have := hrd.cap.2 rfl; have := hrd.cap.1; omega) (Lex.own_cells hrd) (by simp [Value.oneCell']) (by omega) hE.size rfl (by unfold hdrB; rw [hle1]; simp [nums])
    exact fun i hi => ⟨8, by simp, .inl (.inr ⟨rfl, hfo i hi⟩)⟩
  rintro v f5 ⟨A5, c5, rfl⟩
  simp only [Act.put, List.setIfInBounds_toArray, List.set_cons_zero, List.set_cons_succ]
  repeat (first | (refine Lex.lexR_skip (by rfl) ?_; simp only [Act.put, List.setIfInBounds_toArray, List.set_cons_zero, List.set_cons_succ]) | (refine Lex.lexR_still (by rfl) (by rfl) ?_; apply Exists.intro; refine ⟨fun W hW => ?_, ?_⟩; (have hE := hW; have hE2 := Lex.ext_drew hE; clear hW; go_simp; try with_reducible rfl); simp only [Act.put, List.setIfInBounds_toArray, List.set_cons_zero, List.set_cons_succ]))
  refine Lex.lexR_nil (fun W hW hF => ?_)
  have HX5 := Lib.hid (Lex.ext_drew hW)
  have HO5 := Lib.hid (Own.mono (((hF 14 rfl).2 rfl) _ _ rfl).1 fun i _ hi => (show w1.heap.size ≤ i from hi))
  clear hW hF z2 z3 z4
  refine Lex.onlyN_intro ?_
  generalize hG : w.heap.size = g at *
  obtain ⟨X, hX⟩ : ∃ X, X = hdrB ⟨nx, ls, A, n, c, objs⟩ := ⟨_, rfl⟩
  rw [← hX] at HO5
  have hXl : X.length = 9 := by rw [hX]; simp [hdrB, Le.le_length]
  have HX := Lib.hid hX
  clear hX
  go_wp2_with fail
  go_loopg [3, 4] n (fun q o i wr => ∃ (k : Nat) (xs : List Int) (D : Option Addr) (d dc : Nat), k ≤ n ∧ q = n - k ∧ i = .int .i64 (k : Nat) ∧ o = .slice D d dc ∧ xs.length = d ∧ d ≤ 10 + k * 4000 ∧ Hid (xs = X ++ (objs.take k).flatMap wholeB) ∧ Hid (Ext w1 wr) ∧ Hid (Own wr (fun i => w1.heap.size ≤ i) 5 1 (.slice D d dc) d (nums .u8 xs)))
  case atStart => exact ⟨0, _, _, _, _, Nat.zero_le _, rfl, rfl, rfl, hXl, by omega, Lib.hid (by simp), HX5, HO5⟩
  case round =>
    clear HX5 HO5
    obtain ⟨k, xs, D, d, dc, hk, rfl, rfl, rfl, hxl, hdl, HXS, HX5, HO5⟩ := hrel
    have hE1 := HE1.out.trans HX5.out
    have y4 : wr.cell? ⟨g, 4, none⟩ = some (.slice A n c) := blk_cell (i := 4) HB.out HX5.out rfl
    by_cases hlt2 : k < n
    · obtain ⟨ad, o, rfl, ho, hcell, hok⟩ := obj_at H.out hlt2
      obtain ⟨c0, c1, c2, c3, c4, c5⟩ := hcell.ext hE1
      have HOB := Lib.hid ho
      have hom := List.mem_of_getElem? ho
      have HFO := Lib.hid (HF.out o hom)
      have hpl := (obj_ok hok).2.2.2
      have HPL := Lib.hid hpl
      have hol := objB_len HFO.out
      have hpn : pN o ≤ 32 := by have := HFO.out.rws.1; have := HFO.out.rws.2; omega
      have hpc : pN o ≤ pC o := (sl_len hpl).2.1
      have hki : ((k : Nat) : Int) < ((n : Nat) : Int) := by omega
      have HRL := Lib.hid (rowB_len HFO.out hsl (HROWS.out o hom))
      have hgs : w1.heap.size ≤ wr.heap.size := HX5.out.size
      have HE2 := Lib.hid hE1
      clear hcell hok ho hom hpl hE1
      go_upto_region 6 with (refine RowSt.wpList_put 200 _ _ rfl rfl rfl wr.heap.size #[.int .u32 (num o), .string (name o), .int .i64 (pl1 o), .int .i64 (pl2 o), .int .i64 (pl3 o), .slice (pA o) (pN o) (pC o)] rfl rfl 200 _ (at_new wr _) (by kernel_rfl) rfl (by simp [Value.oneCell']) ?_; intro w9 hb9 hc9)
      have hE9 : Ext wr w9 := (Ext.new wr _).chg hc9 fun i hi => by have hi : i = wr.heap.size := hi; omega
      have HX9 := Lib.hid (HX5.out.trans hE9)
      have HO9 := Lib.hid (Own.extNew HO5.out hE9)
      have HR9 : Hid (Rd w9 .u8 D d xs) := Lib.hid (HO9.out.rd (by rw [HXS.out, HX.out]; exact tableB_wf _ _ rfl))
      clear HX5 HO5 y4 c0 c1 c2 c3 c4 c5
      have z0 : ∀ W, Ext w9.drew W → W.cell? ⟨wr.heap.size, 0, none⟩ = some (.int .u32 (num o)) := fun W hW => blk_cell (i := 0) hb9 (drew_ext hW) rfl
      have z1 : ∀ W, Ext w9.drew W → W.cell? ⟨wr.heap.size, 1, none⟩ = some (.string (name o)) := fun W hW => blk_cell (i := 1) hb9 (drew_ext hW) rfl
      have z2 : ∀ W, Ext w9.drew W → W.cell? ⟨wr.heap.size, 2, none⟩ = some (.int .i64 (pl1 o)) := fun W hW => blk_cell (i := 2) hb9 (drew_ext hW) rfl
      have z3 : ∀ W, Ext w9.drew W → W.cell? ⟨wr.heap.size, 3, none⟩ = some (.int .i64 (pl2 o)) := fun W hW => blk_cell (i := 3) hb9 (drew_ext hW) rfl
      have z4 : ∀ W, Ext w9.drew W → W.cell? ⟨wr.heap.size, 4, none⟩ = some (.int .i64 (pl3 o)) := fun W hW => blk_cell (i := 4) hb9 (drew_ext hW) rfl
      have W3 : IntKind.u64.wrap (num o) = num o := IntWalk.u64_in _ (by have := HFO.out.num0; have := HFO.out.num1; omega)
      have W4 : IntKind.u64.wrap (pl1 o) = pl1 o := IntWalk.u64_in _ (by have := HFO.out.l0; have := HFO.out.l1; omega)
      have W5 : IntKind.u64.wrap (pl2 o) = pl2 o := IntWalk.u64_in _ (by have := HFO.out.c0; have := HFO.out.c1; omega)
      have W6 : IntKind.u64.wrap (pl3 o) = pl3 o := IntWalk.u64_in _ (by have := HFO.out.p0; have := HFO.out.p1; omega)
      have HB9 := Lib.hid hb9
      clear hb9 hc9 hE9
      refine Lex.wp_region_u [0, 1, 2, 3, 4, 5, 6, 7, 8, 9, 10, 11, 12, 13, 14, 15, 16, 17, 18, 19, 20, 21, 22, 23, 24, 25, 26] [] [(4, Lex.Loose.nums .u8 4 (Le.le 4 (num o))), (7, Lex.Loose.nums .u8 (name o).size (bytesI (name o))), (8, Lex.Loose.nums .u8 (2 + (name o).size) (textB (name o))), (13, Lex.Loose.nums .u8 4 (Le.le 4 (pl1 o))), (18, Lex.Loose.nums .u8 2 (Le.le 2 (pl2 o))), (23, Lex.Loose.nums .u8 2 (Le.le 2 (pl3 o))), (25, Lex.Loose.row w9 5 .u8 (d + (14 + (name o).size)) (xs ++ objB o))] (by kernel_rfl) (by kernel_rfl) (by repeat (first | exact Lex.st_nil | refine Lex.st_cons (by first | exact Lex.nums_st | exact Lex.const_st | exact Lex.such_st | exact Lex.row_st | exact Lex.rowE_st | exact Lex.litR_st | assumption) ?_)) ?_; simp only [Lex.pick, List.getElem?_cons_succ, List.getElem?_cons_zero, List.map_nil]
      repeat (first | (refine Lex.lexU_skip (by rfl) ?_; simp only [Act.put, List.setIfInBounds_toArray, List.set_cons_zero, List.set_cons_succ]) | (refine Lex.lexU_still (by rfl) (by rfl) (by first | exact Base.Ext.refl | exact Lex.Fill.refl) ?_; apply Exists.intro; refine ⟨fun W hW => ?_, ?_⟩; (have hE := Lex.ext_of_cls hW.1; have hE2 := Lex.ext_drew hE; clear hW; go_simp; try with_reducible rfl); simp only [Act.put, List.setIfInBounds_toArray, List.set_cons_zero, List.set_cons_succ]))
      refine Lex.lexU_loose (by rfl) (by rfl) (fun W hW => ?_) ?_
      · clear hW
        go_simp
        refine (Ref01.num_calls (num o) 4 W (by decide) (by decide) HFO.out.num0 (by have := HFO.out.num1; omega)).mono ?_
        rintro e w' ⟨A', c', rfl, ho, hb⟩
        exact ⟨_, rfl, ⟨A', c', rfl⟩, hb, Lex.nums_mk (ho.rd (le_wf 4 _))⟩
      rintro v ⟨B1, d1, rfl⟩
      simp only [Act.put, List.setIfInBounds_toArray, List.set_cons_zero, List.set_cons_succ]
      repeat (first | (refine Lex.lexU_skip (by rfl) ?_; simp only [Act.put, List.setIfInBounds_toArray, List.set_cons_zero, List.set_cons_succ]) | (refine Lex.lexU_still (by rfl) (by rfl) (by first | exact Base.Ext.refl | exact Lex.Fill.refl) ?_; apply Exists.intro; refine ⟨fun W hW => ?_, ?_⟩; (have hE := Lex.ext_of_cls hW.1; have hE2 := Lex.ext_drew hE; clear hW; go_simp; try with_reducible rfl); simp only [Act.put, List.setIfInBounds_toArray, List.set_cons_zero, List.set_cons_succ]))
      refine Lex.lexU_loose (by rfl) (by rfl) (fun W hW => ?_) ?_
      · clear hW
        obtain ⟨cc, W', hrun, he, hrd, hlt⟩ := conv_str W (name o) (by have := HFO.out.nm; omega)
        go_simp
        exact ⟨⟨_, _, rfl⟩, he, Lex.nums_mk hrd⟩
      rintro v ⟨B2, d2, rfl⟩
      simp only [Act.put, List.setIfInBounds_toArray, List.set_cons_zero, List.set_cons_succ]
      repeat (first | (refine Lex.lexU_skip (by rfl) ?_; simp only [Act.put, List.setIfInBounds_toArray, List.set_cons_zero, List.set_cons_succ]) | (refine Lex.lexU_still (by rfl) (by rfl) (by first | exact Base.Ext.refl | exact Lex.Fill.refl) ?_; apply Exists.intro; refine ⟨fun W hW => ?_, ?_⟩; (have hE := Lex.ext_of_cls hW.1; have hE2 := Lex.ext_drew hE; clear hW; go_simp; try with_reducible rfl); simp only [Act.put, List.setIfInBounds_toArray, List.set_cons_zero, List.set_cons_succ]))
      refine Lex.lexU_loose (by rfl) (by rfl) (fun W hW => ?_) ?_
      · have hrd := (hW.2 7 (by kernel_rfl)).2 rfl _ _ rfl
        clear hW
        go_simp
        refine (rtext_calls B2 (name o).size d2 (bytesI (name o)) W hrd (by have := HFO.out.nm; omega)).mono ?_
        rintro e w' ⟨A', c', rfl, ho, hb⟩
        exact ⟨_, rfl, ⟨A', c', rfl⟩, hb, Lex.nums_mk (ho.rd (textB_wf _))⟩
      rintro v ⟨B3, d3, rfl⟩
      simp only [Act.put, List.setIfInBounds_toArray, List.set_cons_zero, List.set_cons_succ]
      repeat (first | (refine Lex.lexU_skip (by rfl) ?_; simp only [Act.put, List.setIfInBounds_toArray, List.set_cons_zero, List.set_cons_succ]) | (refine Lex.lexU_still (by rfl) (by rfl) (by first | exact Base.Ext.refl | exact Lex.Fill.refl) ?_; apply Exists.intro; refine ⟨fun W hW => ?_, ?_⟩; (have hE := Lex.ext_of_cls hW.1; have hE2 := Lex.ext_drew hE; clear hW; go_simp; try with_reducible rfl); simp only [Act.put, List.setIfInBounds_toArray, List.set_cons_zero, List.set_cons_succ]))
      refine Lex.lexU_loose (by rfl) (by rfl) (fun W hW => ?_) ?_
      · clear hW
        go_simp
        refine (Ref01.num_calls (pl1 o) 4 W (by decide) (by decide) HFO.out.l0 (by have := HFO.out.l1; omega)).mono ?_
        rintro e w' ⟨A', c', rfl, ho, hb⟩
        exact ⟨_, rfl, ⟨A', c', rfl⟩, hb, Lex.nums_mk (ho.rd (le_wf 4 _))⟩
      rintro v ⟨B4, d4, rfl⟩
      simp only [Act.put, List.setIfInBounds_toArray, List.set_cons_zero, List.set_cons_succ]
      repeat (first | (refine Lex.lexU_skip (by rfl) ?_; simp only [Act.put, List.setIfInBounds_toArray, List.set_cons_zero, List.set_cons_succ]) | (refine Lex.lexU_still (by rfl) (by rfl) (by first | exact Base.Ext.refl | exact Lex.Fill.refl) ?_; apply Exists.intro; refine ⟨fun W hW => ?_, ?_⟩; (have hE := Lex.ext_of_cls hW.1; have hE2 := Lex.ext_drew hE; clear hW; go_simp; try with_reducible rfl); simp only [Act.put, List.setIfInBounds_toArray, List.set_cons_zero, List.set_cons_succ]))
      refine Lex.lexU_loose (by rfl) (by rfl) (fun W hW => ?_) ?_
      · clear hW
        go_simp
        refine (Ref01.num_calls (pl2 o) 2 W (by decide) (by decide) HFO.out.c0 (by have := HFO.out.c1; omega)).mono ?_
        rintro e w' ⟨A', c', rfl, ho, hb⟩
        exact ⟨_, rfl, ⟨A', c', rfl⟩, hb, Lex.nums_mk (ho.rd (le_wf 2 _))⟩
      rintro v ⟨B5, d5, rfl⟩
      simp only [Act.put, List.setIfInBounds_toArray, List.set_cons_zero, List.set_cons_succ]
      repeat (first | (refine Lex.lexU_skip (by rfl) ?_; simp only [Act.put, List.setIfInBounds_toArray, List.set_cons_zero, List.set_cons_succ]) | (refine Lex.lexU_still (by rfl) (by rfl) (by first | exact Base.Ext.refl | exact Lex.Fill.refl) ?_; apply Exists.intro; refine ⟨fun W hW => ?_, ?_⟩; (have hE := Lex.ext_of_cls hW.1; have hE2 := Lex.ext_drew hE; clear hW; go_simp; try with_reducible rfl); simp only [Act.put, List.setIfInBounds_toArray, List.set_cons_zero, List.set_cons_succ]))
      refine Lex.lexU_loose (by rfl) (by rfl) (fun W hW => ?_) ?_
      · clear hW
        go_simp
        refine (Ref01.num_calls (pl3 o) 2 W (by decide) (by decide) HFO.out.p0 (by have := HFO.out.p1; omega)).mono ?_
        rintro e w' ⟨A', c', rfl, ho, hb⟩
        exact ⟨_, rfl, ⟨A', c', rfl⟩, hb, Lex.nums_mk (ho.rd (le_wf 2 _))⟩
      rintro v ⟨B6, d6, rfl⟩
      simp only [Act.put, List.setIfInBounds_toArray, List.set_cons_zero, List.set_cons_succ]
      repeat (first | (refine Lex.lexU_skip (by rfl) ?_; simp only [Act.put, List.setIfInBounds_toArray, List.set_cons_zero, List.set_cons_succ]) | (refine Lex.lexU_still (by rfl) (by rfl) (by first | exact Base.Ext.refl | exact Lex.Fill.refl) ?_; apply Exists.intro; refine ⟨fun W hW => ?_, ?_⟩; (have hE := Lex.ext_of_cls hW.1; have hE2 := Lex.ext_drew hE; clear hW; go_simp; try with_reducible rfl); simp only [Act.put, List.setIfInBounds_toArray, List.set_cons_zero, List.set_cons_succ]))
      refine Lex.lexU_such (by rfl) (by rfl) (Lex.blkL 6 55 #[.slice D d dc, .slice B1 4 d1, .slice B3 (2 + (name o).size) d3, .slice B4 4 d4, .slice B5 2 d5, .slice B6 2 d6]) (Lex.blkL_st) (fun W hW => ?_) ?_
      · clear hW
        go_simp
        exact ⟨⟨_, rfl⟩, Ext.new _ _, Lex.blkL_mk⟩
      rintro v ⟨g6, rfl⟩
      simp only [Act.put, List.setIfInBounds_toArray, List.set_cons_zero, List.set_cons_succ]
      repeat (first | (refine Lex.lexU_skip (by rfl) ?_; simp only [Act.put, List.setIfInBounds_toArray, List.set_cons_zero, List.set_cons_succ]) | (refine Lex.lexU_still (by rfl) (by rfl) (by first | exact Base.Ext.refl | exact Lex.Fill.refl) ?_; apply Exists.intro; refine ⟨fun W hW => ?_, ?_⟩; (have hE := Lex.ext_of_cls hW.1; have hE2 := Lex.ext_drew hE; clear hW; go_simp; try with_reducible rfl); simp only [Act.put, List.setIfInBounds_toArray, List.set_cons_zero, List.set_cons_succ]))
      refine Lex.lexU_loose (by rfl) (by rfl) (fun W hW => ?_) ?_
      · have hE := Lex.ext_drew (Lex.ext_of_cls hW.1)
        have h6 := Lex.upd_here (hW.2 24 (by kernel_rfl)) _ rfl
        have r1 := (hW.2 4 (by kernel_rfl)).1.1.1.1.1.1.2 rfl _ _ rfl
        have r3 := (hW.2 8 (by kernel_rfl)).1.1.1.1.2 rfl _ _ rfl
        have r4 := (hW.2 13 (by kernel_rfl)).1.1.1.2 rfl _ _ rfl
        have r5 := (hW.2 18 (by kernel_rfl)).1.1.2 rfl _ _ rfl
        have r6 := (hW.2 23 (by kernel_rfl)).1.2 rfl _ _ rfl
        clear hW
        go_simp
        have hfl : Ref01.flat [(D, d, dc, xs), (B1, 4, d1, Le.le 4 (num o)), (B3, 2 + (name o).size, d3, textB (name o)), (B4, 4, d4, Le.le 4 (pl1 o)), (B5, 2, d5, Le.le 2 (pl2 o)), (B6, 2, d6, Le.le 2 (pl3 o))] = xs ++ objB o := by simp [Ref01.flat, objB]
        have hln : (xs ++ objB o).length = d + (14 + (name o).size) := by
          rw [List.length_append, hxl]
          simp [objB, textB, Le.le_length, bytesI_len]
          omega
        refine (Ref01.join_calls _ 6 6 [(D, d, dc, xs), (B1, 4, d1, Le.le 4 (num o)), (B3, 2 + (name o).size, d3, textB (name o)), (B4, 4, d4, Le.le 4 (pl1 o)), (B5, 2, d5, Le.le 2 (pl2 o)), (B6, 2, d6, Le.le 2 (pl3 o))] _ (rdrows_at (rows := [(D, d, dc, xs), (B1, 4, d1, Le.le 4 (num o)), (B3, 2 + (name o).size, d3, textB (name o)), (B4, 4, d4, Le.le 4 (pl1 o)), (B5, 2, d5, Le.le 2 (pl2 o)), (B6, 2, d6, Le.le 2 (pl3 o))]) h6 rfl (by
          intro r hr
          simp only [List.mem_cons, List.not_mem_nil, or_false] at hr
          rcases hr with rfl | rfl | rfl | rfl | rfl | rfl
          · exact HR9.out.ext hE
          · exact r1
          · exact r3
          · exact r4
          · exact r5
          · exact r6)) (by omega) (by rw [hfl, hln]; have := HFO.out.nm; omega)).mono ?_
        rw [hfl, hln]
        rintro e w' ⟨A', c', rfl, ho, hb⟩
        exact ⟨_, rfl, ⟨A', c', rfl, ho.cap.1⟩, hb, Lex.row_mk (ho.mono fun i _ hi => Nat.le_trans hE.size hi)⟩
      rintro v ⟨D1, dc1, rfl, hdc1⟩
      simp only [Act.put, List.setIfInBounds_toArray, List.set_cons_zero, List.set_cons_succ]
      repeat (first | (refine Lex.lexU_skip (by rfl) ?_; simp only [Act.put, List.setIfInBounds_toArray, List.set_cons_zero, List.set_cons_succ]) | (refine Lex.lexU_still (by rfl) (by rfl) (by first | exact Base.Ext.refl | exact Lex.Fill.refl) ?_; apply Exists.intro; refine ⟨fun W hW => ?_, ?_⟩; (have hE := Lex.ext_of_cls hW.1; have hE2 := Lex.ext_drew hE; clear hW; go_simp; try with_reducible rfl); simp only [Act.put, List.setIfInBounds_toArray, List.set_cons_zero, List.set_cons_succ]))
      refine Lex.lexU_nil (fun W hW => ?_)
      have HX7 := Lib.hid (Lex.ext_drew hW.1)
      have HO7 := Lib.hid ((hW.2 25).2 rfl _ _ rfl)
      clear hW z0 z1 z2 z3 z4 HR9 HO9 hdc1 W3 W4 W5 W6
      generalize wr.heap.size = bx at *
      obtain ⟨Y, hY⟩ : ∃ Y, Y = xs ++ objB o := ⟨_, rfl⟩
      have hYl : Y.length = d + (14 + (name o).size) := by
        rw [hY, List.length_append, hxl]
        simp [objB, textB, Le.le_length, bytesI_len]
        omega
      have hnm := HFO.out.nm
      rw [← hY] at HO7
      have he0 : d + (14 + (name o).size) ≤ 88 + k * 4000 := by omega
      generalize d + (14 + (name o).size) = e0 at *
      have HY := Lib.hid hY
      clear hY hnm
      refine Lex.onlyN_intro ?_
      go_wp2_with fail
      generalize hPA : pA o = PA at HPL HB9 ⊢
      go_loopg [3, 6] (pN o) (fun q v i wi => ∃ (j : Nat) (ys : List Int) (E : Option Addr) (e ec : Nat), j ≤ pN o ∧ q = pN o - j ∧ i = .int .i64 (j : Nat) ∧ v = .slice E e ec ∧ ys.length = e ∧ e ≤ 88 + k * 4000 + j * 120 ∧ Hid (ys = Y ++ ((rows o).take j).flatMap rowB) ∧ Hid (Ext w9 wi) ∧ Hid (Own wi (fun i => w9.heap.size ≤ i) 5 1 (.slice E e ec) e (nums .u8 ys)))
      case atStart => exact ⟨0, _, _, _, _, Nat.zero_le _, rfl, rfl, rfl, hYl, by omega, Lib.hid (by simp), HX7, HO7⟩
      case round =>
        clear HX7 HO7
        obtain ⟨j, ys, E, e, ec, hj, rfl, rfl, rfl, hyl, hel, HYS, HX7, HO7⟩ := hrel
        have y3 : wr.cell? ⟨bx, 5, none⟩ = some (.slice PA (pN o) (pC o)) := blk_cell (i := 5) HB9.out HX7.out rfl
        by_cases hlt3 : j < pN o
        · obtain ⟨adp, r, rfl, hr0, hrow, hrok⟩ := row_at HPL.out hlt3
          have hX9 := (HE1.out.trans HX9.out).trans HX7.out
          have hrc := hX9.cell_ hrow
          have hrm := List.mem_of_getElem? hr0
          have hre := HFO.out.each r hrm
          have hrs := hre.1
          have HPE := Lib.hid hre.2
          have HRB := Lib.hid (HRL.out r hrm)
          have HROK := Lib.hid hrok
          have HR0 := Lib.hid hr0
          have hrcap : rN r ≤ rC r := (sl_len hrok).2.1
          have hji : ((j : Nat) : Int) < ((pN o : Nat) : Int) := by omega
          have hrb : (adp.add j).block < w.heap.size := World.block_lt_of_cell? w _ hrow
          have hgb : w.heap.size ≤ w9.heap.size := (HE1.out.trans HX9.out).size
          clear hrok hr0 hrm hre hX9
          go_wp2_with fail
          generalize hRA : rA r = RA at HROK hrc hrow ⊢
          have HRW := Lib.hid hrow
          clear hrow hrc y3
          go_loopg [3, 7] (rN r) (fun q v i wi => ∃ (m : Nat) (zs : List Int) (F : Option Addr) (f fc : Nat), m ≤ rN r ∧ q = rN r - m ∧ i = .int .i64 (m : Nat) ∧ v = .slice F f fc ∧ zs.length = f ∧ f ≤ 88 + k * 4000 + j * 120 + m * 5 ∧ Hid (zs = ys ++ ((rP r).take m).flatMap placeB) ∧ Hid (Ext w9 wi) ∧ Hid (Own wi (fun i => w9.heap.size ≤ i) 5 1 (.slice F f fc) f (nums .u8 zs)))
          case atStart => exact ⟨0, _, _, _, _, Nat.zero_le _, rfl, rfl, rfl, hyl, by omega, Lib.hid (by simp), HX7, HO7⟩
          case round =>
            clear HX7 HO7
            obtain ⟨m, zs, F, f, fc, hm, rfl, rfl, rfl, hzl, hfl, HZS, HX7, HO7⟩ := hrel
            have y3 : wr.cell? ⟨bx, 5, none⟩ = some (.slice (some adp) (pN o) (pC o)) := blk_cell (i := 5) HB9.out HX7.out rfl
            have hX9 := (HE1.out.trans HX9.out).trans HX7.out
            have y6 : wr.cell? (adp.add j) = some (.slice RA (rN r) (rC r)) := hX9.cell_ HRW.out
            by_cases hlt4 : m < rN r
            · obtain ⟨ap, p, rfl, hp, hp0, hp1, _, _⟩ := place_at HROK.out hlt4
              have HPP := Lib.hid (HPE.out p (List.mem_of_getElem? hp))
              have d0 := hX9.cell_ hp0
              have d1 := hX9.cell_ hp1
              have hpb0 : (ap.add (m * 2)).block < w.heap.size := World.block_lt_of_cell? w _ hp0
              have hpb1 : (Addr.mk (ap.add (m * 2)).block ((ap.add (m * 2)).off + 1) none).block < w.heap.size := hpb0
              have HP := Lib.hid hp
              have hmi : ((m : Nat) : Int) < ((rN r : Nat) : Int) := by omega
              clear hp hp0 hp1 hX9
              go_upto_region 13 with fail
              obtain ⟨f0, hf0⟩ : ∃ f0 : Nat → Prop, f0 = fun i => (Value.slice F f fc).ownBlock = some i := ⟨_, rfl⟩
              have hk : ∀ W, Chg f0 wr.drew W → ∀ a v, wr.cell? a = some v → a.block < w9.heap.size → W.cell? a = some v := fun W hW a v hc hb => Chg.cell hW (show wr.drew.cell? a = some v from hc) fun hf => by
                rw [hf0] at hf
                have := HO7.out.foot _ hf
                omega
              have hbx : bx < w9.heap.size := Pack.lt_of_at HB9.out
              have z0 : ∀ W, Chg f0 wr.drew W → W.cell? ⟨bx, 5, none⟩ = some (.slice (some adp) (pN o) (pC o)) := fun W hW => hk W hW _ _ y3 hbx
              have z1 : ∀ W, Chg f0 wr.drew W → W.cell? (adp.add j) = some (.slice (some ap) (rN r) (rC r)) := fun W hW => hk W hW _ _ y6 (by omega)
              have z2 : ∀ W, Chg f0 wr.drew W → W.cell? (ap.add (m * 2)) = some (.int .i64 (node p)) := fun W hW => hk W hW _ _ d0 (by omega)
              have z3 : ∀ W, Chg f0 wr.drew W → W.cell? ⟨(ap.add (m * 2)).block, (ap.add (m * 2)).off + 1, none⟩ = some (.int .u32 (gen p)) := fun W hW => hk W hW _ _ d1 (by omega)
              have W3 : IntKind.u8.wrap (node p) = node p := IntWalk.u8_in _ (by have := HPP.out; omega)
              have W4 : IntKind.u64.wrap (gen p) = gen p := IntWalk.u64_in _ (by have := HPP.out; omega)
              have hle2 : Le.le 1 (node p) = [node p] := by have := HPP.out; simp [Le.le]; omega
              have HI0 : Hid ((Lex.rowR w9 5 1 f (nums .u8 zs)).R (.slice F f fc) f0 wr.drew) := Lib.hid fun A c e => by
                cases e
                exact ⟨Own.extNew HO7.out (Ext.drew (Ext.refl _)), fun i hi => by rw [hf0]; exact hi⟩
              have HLT : Hid (∀ i, f0 i → i < wr.heap.size) := Lib.hid fun i hi => Lex.own_ltB HO7.out (by rw [hf0] at hi; exact hi)
              have HFW : Hid (∀ i, f0 i → w9.heap.size ≤ i) := Lib.hid fun i hi => HO7.out.foot i (by rw [hf0] at hi; exact hi)
              have hsz : w9.heap.size ≤ wr.heap.size := HX7.out.size
              clear hk d0 d1 y3 y6 HO7 hpb0 hpb1 hrb hbx hf0
              refine Lex.wp_region_rw [0, 1, 2, 3, 4, 5, 6, 7, 8, 9, 10, 11, 12, 13, 14, 15, 16, 17, 18, 19, 20, 21, 22, 23, 24, 25] [] f0 26 (Lex.rowR w9 5 1 f (nums .u8 zs)) (.slice F f fc) [(12, 26), (24, 12)] [(11, Lex.rowR w9 5 1 1 [.int .u8 (node p)]), (12, Lex.rowR w9 5 1 (f + 1) (nums .u8 (zs ++ Le.le 1 (node p)))), (23, Lex.rowR w9 5 1 4 (nums .u8 (Le.le 4 (gen p)))), (24, Lex.rowR w9 5 1 (f + 5) (nums .u8 (zs ++ placeB p)))] (by kernel_rfl) (by kernel_rfl) (by kernel_rfl) (by repeat (first | exact Lex.ok_nilR | refine Lex.ok_consR (by first | exact Lex.rowR_ok | exact Tbl.wrR_ok | exact Tbl.rdR_ok | assumption) ?_)) (by first | exact Tbl.wrR_ok | exact Lex.rowR_ok) HI0.out HLT.out ?_; simp only [Lex.pick, List.getElem?_cons_succ, List.getElem?_cons_zero, List.map_cons, List.map_nil]
              repeat (first | (refine Lex.lexR_skip (by rfl) ?_; simp only [Act.put, List.setIfInBounds_toArray, List.set_cons_zero, List.set_cons_succ]) | (refine Lex.lexR_still (by rfl) (by rfl) ?_; apply Exists.intro; refine ⟨fun W hW => ?_, ?_⟩; (have hE := hW; clear hW; go_simp; try with_reducible rfl); simp only [Act.put, List.setIfInBounds_toArray, List.set_cons_zero, List.set_cons_succ]))
              refine Lex.lexR_loose (by rfl) (by rfl) (fun W hW hAP => ?_) ?_
              · have hsz2 : wr.heap.size ≤ W.heap.size := hW.1.size
                clear hW hAP
                go_simp
                exact Lex.rowR_new (by omega) (Ext.new _ _) (Lex.own_lit (by simp) (by decide))
              rintro v f1 ⟨B1, b1, rfl⟩
              simp only [Act.put, List.setIfInBounds_toArray, List.set_cons_zero, List.set_cons_succ]
              refine Lex.lexR_loose (by rfl) (by rfl) (fun W hW hAP => ?_) ?_
              · obtain ⟨hown, hfo⟩ := ((hW.2 26 (by kernel_rfl) rfl).1.2 rfl) _ _ rfl
                obtain ⟨hrd, _⟩ := ((hW.2 11 (by kernel_rfl) rfl).2 rfl) _ _ rfl
                have hsz2 : wr.heap.size ≤ W.heap.size := hW.1.size
                clear hW hAP
                refine Lex.app_looseR (n := f) (m := 1) (xs := nums .u8 zs) (ys := nums .u8 (zs ++ Le.le 1 (node p))) (.tmp 78) (.tmp 89) _ rfl 5 _ 1 1 Try.underlying55 Pack.info_u8 rfl (by decide) (by decide) rfl hown ?_ rfl rfl (fun h => by subst h; have := hrd.cap.2 rfl; have := hrd.cap.1; omega) (Lex.own_cells hrd) (by simp [Value.oneCell']) (by omega) (by omega) rfl (by rw [hle2]; simp [nums])
                exact fun i hi => ⟨26, by simp, .inl (.inr ⟨rfl, hfo i hi⟩)⟩
              rintro v f2 ⟨B2, b2, rfl⟩
              simp only [Act.put, List.setIfInBounds_toArray, List.set_cons_zero, List.set_cons_succ]
              repeat (first | (refine Lex.lexR_skip (by rfl) ?_; simp only [Act.put, List.setIfInBounds_toArray, List.set_cons_zero, List.set_cons_succ]) | (refine Lex.lexR_still (by rfl) (by rfl) ?_; apply Exists.intro; refine ⟨fun W hW => ?_, ?_⟩; (have hE := hW; clear hW; go_simp; try with_reducible rfl); simp only [Act.put, List.setIfInBounds_toArray, List.set_cons_zero, List.set_cons_succ]))
              refine Lex.lexR_loose (by rfl) (by rfl) (fun W hW hAP => ?_) ?_
              · have hsz2 : wr.heap.size ≤ W.heap.size := hW.1.size
                clear hW hAP
                go_simp
                refine (Ref01.num_calls (gen p) 4 W (by decide) (by decide) HPP.out.2.2.1 (by have := HPP.out; omega)).mono ?_
                rintro e w' ⟨A', c', rfl, ho, hb⟩
                exact ⟨_, rfl, Lex.rowR_new (by omega) hb ho⟩
              rintro v f3 ⟨B3, b3, rfl⟩
              simp only [Act.put, List.setIfInBounds_toArray, List.set_cons_zero, List.set_cons_succ]
              refine Lex.lexR_loose (by rfl) (by rfl) (fun W hW hAP => ?_) ?_
              · obtain ⟨hown, hfo⟩ := ((hW.2 12 (by kernel_rfl) rfl).1.2 rfl) _ _ rfl
                obtain ⟨hrd, _⟩ := ((hW.2 23 (by kernel_rfl) rfl).2 rfl) _ _ rfl
                have hsz2 : wr.heap.size ≤ W.heap.size := hW.1.size
                clear hW hAP
                refine Lex.app_looseR (n := f + 1) (m := 4) (xs := nums .u8 (zs ++ Le.le 1 (node p))) (ys := nums .u8 (zs ++ placeB p)) (.tmp 90) (.tmp 101) _ rfl 5 _ 1 1 Try.underlying55 Pack.info_u8 rfl (by decide) (by decide) rfl hown ?_ rfl (by simp [nums, Le.le_length]) (fun h => by subst h; have := hrd.cap.2 rfl; have := hrd.cap.1; omega) (Lex.own_cells hrd) (fun u hu => by obtain ⟨x, _, rfl⟩ := List.mem_map.1 hu; rfl) (by omega) (by omega) rfl (by simp [nums, placeB])
                exact fun i hi => ⟨12, by simp, .inl (.inr ⟨rfl, hfo i hi⟩)⟩
              rintro v f4 ⟨B4, b4, rfl⟩
              simp only [Act.put, List.setIfInBounds_toArray, List.set_cons_zero, List.set_cons_succ]
              repeat (first | (refine Lex.lexR_skip (by rfl) ?_; simp only [Act.put, List.setIfInBounds_toArray, List.set_cons_zero, List.set_cons_succ]) | (refine Lex.lexR_still (by rfl) (by rfl) ?_; apply Exists.intro; refine ⟨fun W hW => ?_, ?_⟩; (have hE := hW; clear hW; go_simp; try with_reducible rfl); simp only [Act.put, List.setIfInBounds_toArray, List.set_cons_zero, List.set_cons_succ]))
              refine Lex.lexR_nil (fun W hW hF => ?_)
              have HO8 := Lib.hid (((hF 24 rfl).2 rfl) _ _ rfl).1
              have HX8 : Hid (Ext w9 W) := Lib.hid (HX7.out.chg ((Chg.drew (Chg.refl _ _)).trans hW) HFW.out)
              clear hW hF z0 z1 z2 z3 HI0 HLT HFW HX7 HPP
              refine Lex.onlyN_intro ?_
              go_wp2_with fail
              go_roundg (rN r - (m + 1))
              case measure => omega
              case rel => exact ⟨m + 1, zs ++ placeB p, B4, f + 5, b4, by omega, rfl, by first | rfl | go_num, rfl, by simp [placeB, Le.le_length]; omega, by omega, Lib.hid (by rw [HZS.out, List.take_add_one, HP.out]; simp), HX8, HO8⟩
            · obtain rfl : m = rN r := by omega
              have HZ2 : Hid (zs = Y ++ ((rows o).take (j + 1)).flatMap rowB) := Lib.hid (by
                rw [HZS.out, HYS.out, List.take_of_length_le (l := rP r) (Nat.le_of_eq (sl_len HROK.out).1), List.take_add_one, HR0.out]
                simp [rowB])
              clear hX9
              go_wp2_with fail
              go_roundg (pN o - (j + 1))
              case measure => omega
              case rel => exact ⟨j + 1, zs, F, f, fc, by omega, rfl, by first | rfl | go_num, rfl, hzl, by omega, HZ2, HX7, HO7⟩
        · obtain rfl : j = pN o := by omega
          have HZ2 : Hid (ys = X ++ (objs.take (k + 1)).flatMap wholeB) := Lib.hid (by
            rw [HYS.out, HY.out, HXS.out, List.take_of_length_le (l := rows o) (Nat.le_of_eq HFO.out.rws.2), List.take_add_one, HOB.out]
            simp [wholeB])
          have HXn := Lib.hid (HX9.out.trans HX7.out)
          have HOn : Hid (Own wr (fun i => w1.heap.size ≤ i) 5 1 (.slice E e ec) e (nums .u8 ys)) := Lib.hid (HO7.out.mono fun i _ hi => Nat.le_trans HX9.out.size hi)
          go_wp2_with fail
          go_roundg (n - (k + 1))
          case measure => omega
          case rel => exact ⟨k + 1, ys, E, e, ec, by omega, rfl, by first | rfl | go_num, rfl, hyl, by omega, HZ2, HXn, HOn⟩
    · obtain rfl : k = n := by omega
      have HZ2 : Hid (xs = tableB ⟨nx, ls, A, k, c, objs⟩) := Lib.hid (by
        rw [HXS.out, List.take_of_length_le (by rw [HL.out]; exact Nat.le_refl _), HX.out]
        rfl)
      subst hxl
      go_wp2_with fail
      go_ret
      rw [← HZ2.out]
      exact ⟨hE1, D, dc, rfl, HO5.out.mono fun i _ hi => by have := HE1.out.size; omega⟩
end Go.Proofs.Ytipmkddcdnbihaa.Tbl
/- The law compares the program's table with the document's: alike, it says yes. -/
namespace Go.Proofs.Ytipmkddcdnbihaa.Tbl
open Go.RowKit Base Step Vec Shape Erase
/-! loads of whole structs, told ahead -/
section
variable {P : Program}
theorem exec_load_row {o : Oper} {a : Act} {w : World} (ty : TypeId) (x : Operand) (ho : o.op = .load ty x) (g : Nat) (hx : a.eval x = .pointer (some ⟨g, 0, none⟩)) (t : TypeId) (cs : Array Value) (fr : Nat × Nat) (d : TypeDesc) (hg : w.heap[g]? = some (.cells cs t fr))
    (hu : P.underlying ty = some d) (hd : (match d with | .struct _ | .array _ _ => true | _ => false) = true) (hi : (P.info? ty).map (·.size) = some cs.size) : (execOp a.eval o).run P w = .ok (.value (.agg cs)) w := by
  unfold execOp
  simp only [ho, hx, Instr.loadAt, Instr.sureAddr, Sem.run_bind, Sem.run_pure, Result.andThen_ok, run_loadVar_row w g t ty cs fr d hg hu hd hi]
theorem exec_load_at {o : Oper} {a : Act} {w : World} (ty : TypeId) (x : Operand) (ho : o.op = .load ty x) (ad : Addr) (hx : a.eval x = .pointer (some ad)) (cs : List Value) (d : TypeDesc) (hc : ∀ j v, cs[j]? = some v → w.cell? (ad.add j) = some v)
    (hu : P.underlying ty = some d) (hd : d.isRow = true) (hi : (P.info? ty).map (·.size) = some cs.length) : (execOp a.eval o).run P w = .ok (.value (.agg cs.toArray)) w := by
  have hl := run_loadCells_list (P := P) w ad cs hc
  have hv : (loadVar ty ad).run P w = .ok (.agg cs.toArray) w := by
    cases hq : P.info? ty with
    | none => simp [hq] at hi
    | some i =>
      have hs : i.size = cs.length := by simpa [hq] using hi
      have hagg : (isAgg ty).run P w = .ok true w := by
        unfold isAgg
        rw [Sem.run_bind, run_underlying hu w]
        cases d <;> simp_all
      simp [loadVar, Sem.run_bind, hagg, sizeOf, typeInfo, hq, hs, hl]
  unfold execOp
  simp only [ho, hx, Instr.loadAt, Instr.sureAddr, Sem.run_bind, Sem.run_pure, Result.andThen_ok, hv]
end
/-- An object's cells in a slice of objects. -/
theorem obj_cells_at {w : World} {A : Option Addr} {n c : Nat} {objs : List Obj} (h : (Sh.sl objS).ok w (A, n, c, objs)) {i : Nat} {o : Obj} (ho : objs[i]? = some o) {ad : Addr} (hA : A = some ad) : ∀ j v, (objC o)[j]? = some v → w.cell? ((ad.add (i * 6)).add j) = some v := by
  obtain ⟨h1, h2, h3, h4, h5⟩ : objs.length = n ∧ n ≤ c ∧ c ≤ maxLen ∧ (A = none → c = 0) ∧ ∀ (i : Nat) (x : Obj), objs[i]? = some x → objS.ok w x ∧ ∃ ad, A = some ad ∧ ∀ (j : Nat) u, (objS.cells x)[j]? = some u → w.cell? (ad.add (i * objS.size + j)) = some u := h
  intro j v hv
  obtain ⟨_, ad', ha', hc⟩ := h5 i o ho
  rw [hA] at ha'
  cases ha'
  rw [Base.add_of_add]
  exact hc j v hv
theorem str8 {w : World} {A : Option Addr} {n : Nat} {xs : List Int} (c : Nat) (h : Rd w .u8 A n xs) : (convert 55 9 (.slice A n c)).run Try.prog w = .ok (.string (strOfNums xs)) w :=
  run_string 55 9 5 c Try.underlying55 Try.underlying5 Try.underlying9 h
/-! two tables that say the same: the same bytes, the same use -/
theorem rows_flat {α : Type} {f : List plS.T → List α} : ∀ {l m : List Row}, l.map rP = m.map rP → l.flatMap (fun r => f (rP r)) = m.flatMap fun r => f (rP r)
  | [], [], _ => rfl
  | [], _ :: _, h => by simp at h
  | _ :: _, [], h => by simp at h
  | a :: l, b :: m, h => by
    simp only [List.map_cons, List.cons.injEq] at h
    rw [List.flatMap_cons, List.flatMap_cons, h.1, rows_flat h.2]
theorem objs_flat {α : Type} {f : Obj → List α} (hf : ∀ a b, view a = view b → f a = f b) : ∀ {l m : List Obj}, l.map view = m.map view → l.flatMap f = m.flatMap f
  | [], [], _ => rfl
  | [], _ :: _, h => by simp at h
  | _ :: _, [], h => by simp at h
  | a :: l, b :: m, h => by
    simp only [List.map_cons, List.cons.injEq] at h
    rw [List.flatMap_cons, List.flatMap_cons, hf a b h.1, objs_flat hf h.2]
theorem whole_view (a b : Obj) (h : view a = view b) : wholeB a = wholeB b := by
  unfold wholeB objB pl1 pl2 pl3
  rw [view_num h, view_name h, view_plan h]
  congr 1
  exact rows_flat (f := fun l => l.flatMap placeB) (view_rows h)
theorem use_view (a b : Obj) (h : view a = view b) : plsOf a = plsOf b := rows_flat (f := fun l => l) (view_rows h)
theorem tableB_view {t r : Tb} (h : Both t r) : tableB t = tableB r := by
  have hn : t.n = r.n := by rw [← h.tn, ← h.rn]; exact h.eqv.len
  unfold tableB hdrB
  rw [h.eqv.nx, h.eqv.ls, hn, objs_flat whole_view h.eqv.objs]
/-- What an object that is told of says, beside the document's object that says the same. -/
theorem told_like {w w' : World} {o b : Obj} {e : Ending} {gt : Nat} (h : Told w (some o) e w') (hv : view o = view b) (hok : objS.ok w o) (hb : (rows b).length = pN b) (hgt : gt < w.heap.size) :
    ∃ A' c' l', e = .returned (.tuple #[.agg #[.int .u32 (num b), .string (name b), .int .i64 (pl1 b), .int .i64 (pl2 b), .int .i64 (pl3 b), .slice A' (pN b) c'], .bool true]) ∧ Ext w w' ∧ (Sh.sl rowS).ok w' (A', pN b, c', l') ∧ l'.map rP = (rows b).map rP := by
  obtain ⟨o', rfl, hc⟩ := h
  have hk := Sh.ok_off (hc.ok hok hgt)
  have hpl := (obj_ok hk).2.2.2
  have hlo : (rows o).length = pN o := (sl_len (obj_ok hok).2.2.2).1
  have hrl := rows_len hv
  have hpn : pN o' = pN b := by rw [hc.len, ← hlo, hrl, hb]
  refine ⟨pA o', pC o', rows o', ?_, hc.ext, by rw [← hpn]; exact hpl, ?_⟩
  · have e1 : num o' = num b := hc.num.trans (view_num hv)
    have e2 : name o' = name b := hc.name.trans (view_name hv)
    have e3 : plan o' = plan b := hc.plan.trans (view_plan hv)
    show Ending.returned (.tuple #[.agg #[.int .u32 (num o'), .string (name o'), .int .i64 (plan o').1, .int .i64 (plan o').2.1, .int .i64 (plan o').2.2.1, .slice (pA o') (pN o') (pC o')], .bool true]) = _
    rw [e1, e2, e3, hpn]
    rfl
  · rw [← view_rows hv]
    apply List.ext_getElem?
    intro i
    rw [List.getElem?_map, List.getElem?_map]
    have hl := hc.rlen
    rcases Nat.lt_or_ge i (rows o).length with hi | hi
    · obtain ⟨r, hr⟩ : ∃ r, (rows o)[i]? = some r := ⟨_, List.getElem?_eq_getElem hi⟩
      obtain ⟨r', hr'⟩ : ∃ r', (rows o')[i]? = some r' := ⟨_, List.getElem?_eq_getElem (by omega)⟩
      rw [hr, hr']
      simp [(hc.alike i r r' hr hr').1.2]
    · rw [List.getElem?_eq_none hi, List.getElem?_eq_none (by omega)]
theorem found_at {l : List Obj} (hs : Sorted l) {i : Nat} {o : Obj} (ho : l[i]? = some o) : found l (name o) = some o := by
  have hi := name_pos hs ho
  unfold found
  rcases there_name hs (name o) with ⟨h1, h2⟩ | ⟨h1, h2, _⟩
  · exfalso
    rcases nameFrom_spec (name o) l 0 with ⟨_, h4⟩ | ⟨j, p, h4, _⟩
    · exact h4 o (List.mem_of_getElem? ho) rfl
    · have : nameAt l (name o) = ((0 + j : Nat) : Int) := h4
      omega
  · rw [if_pos h1, place_pos hs, ← hi]
    exact ho
theorem num_at {l : List Obj} (h : (l.map num).Nodup) {i : Nat} {o : Obj} (ho : l[i]? = some o) : numAt l (num o) = i := by
  rcases numFrom_spec (num o) l 0 with ⟨_, h2⟩ | ⟨j, p, h2, h3, h4⟩
  · exact absurd rfl (h2 o (List.mem_of_getElem? ho))
  · have hij : j = i := by
      rcases Nat.lt_or_ge j i with k | k
      · exact absurd h4 (num_ne h h3 ho (by omega))
      · rcases Nat.lt_or_ge i j with k2 | k2
        · exact absurd h4 (num_ne h h3 ho (by omega))
        · omega
    subst hij
    unfold numAt
    rw [h2, Nat.zero_add]
/-- All that is known of the two. -/
structure Good (sl nd : Nat) (t r : Tb) : Prop where
  both : Both t r
  inv : Inv sl [] t
  ft : ∀ o ∈ t.objs, FineO nd sl o
  fr : ∀ o ∈ r.objs, FineO nd sl o
  l0 : 0 ≤ t.ls
  l1 : t.ls ≤ 4294967295
theorem FineO.small {nd sl : Nat} {o : Obj} (h : FineO nd sl o) (hsl : sl ≤ 24) : Small o :=
  ⟨by have := h.rws.1; have := h.rws.2; omega, fun r hr => by have := (h.each r hr).1; omega⟩
end Go.Proofs.Ytipmkddcdnbihaa.Tbl
/- What is known of the two tables is kept by an operation. No program in sight. -/
namespace Go.Proofs.Ytipmkddcdnbihaa.Tbl
open Go.RowKit Base Step Vec Shape Erase
theorem fine_rows {w : World} {A : Option Addr} {n c : Nat} {l : List Row} (h : (Sh.sl rowS).ok w (A, n, c, l)) : ∀ r ∈ l, (rP r).length = rN r ∧ ∀ p ∈ rP r, 0 ≤ gen p ∧ gen p < 4294967296 := fun r hr => by
  obtain ⟨i, hi, hir⟩ := List.getElem_of_mem hr
  have hrok : (Sh.sl plS).ok w (rA r, rN r, rC r, rP r) := sl_each h (i := i) (x := r) (by rw [List.getElem?_eq_getElem hi, hir])
  refine ⟨(sl_len hrok).1, fun p hp => ?_⟩
  obtain ⟨j, hj, hjp⟩ := List.getElem_of_mem hp
  have hpk : plS.ok w p := sl_each hrok (i := j) (by rw [List.getElem?_eq_getElem hj, hjp])
  obtain ⟨_, k2, _⟩ : (Lit.int .i64 p.1).wf = true ∧ (Lit.int .u32 p.2.1).wf = true ∧ True := hpk
  exact wf_u32 k2
theorem fine_commit {sl nd : Nat} {t t' : Tb} {o : Op} {w : World} (hi : ∀ ob ∈ t.objs, FineO nd sl ob) (ho : OpAt w o) (hr : CommitR sl nd t o w (commitC sl nd t o) t') (hp : ∀ ob ∈ t'.objs, (rows ob).length = pN ob) : ∀ ob ∈ t'.objs, FineO nd sl ob := by
  by_cases hc : commitC sl nd t o = 0
  · obtain ⟨hnm, hpl, hx, hl, ob, hk, hobs⟩ := hr.2 hc
    intro x hxm
    have hpx := hp x hxm
    rw [hobs] at hxm
    have hmem : x ∈ t.objs ∨ x = ob := by
      rcases List.mem_append.1 hxm with hx | hx
      · rcases List.mem_append.1 hx with hx | hx
        · exact .inl (List.mem_of_mem_take hx)
        · exact .inr (by simpa using hx)
      · exact .inl (List.mem_of_mem_drop hx)
    rcases hmem with hx1 | rfl
    · exact hi x hx1
    · have hn0 := wf_u32 ho.num
      have hol : o.rows.length = o.n := (sl_len ho.rows).1
      have h5 := hpl.n
      have h6 := hpl.c1
      have e1 : pl1 x = o.l := by unfold pl1; rw [hk.plan]
      have e2 : pl2 x = o.c := by unfold pl2; rw [hk.plan]
      have e3 : pl3 x = o.p := by unfold pl3; rw [hk.plan]
      have hp0 := hpl.p0
      refine ⟨by rw [hk.num]; exact hn0.1, by rw [hk.num]; exact hn0.2, by rw [hk.name]; exact hnm.few, by rw [e1]; exact hpl.l0, by rw [e1]; exact hpl.l1, by rw [e2]; exact hpl.c0, by rw [e2]; exact hpl.c1, by rw [e3]; omega, by rw [e3]; exact hpl.p1, ⟨by rw [hk.len]; omega, hpx⟩, fun r' hr' => ?_⟩
      obtain ⟨i, hi, hir⟩ := List.getElem_of_mem hr'
      obtain ⟨r, hrr⟩ : ∃ r, o.rows[i]? = some r := ⟨_, List.getElem?_eq_getElem (by rw [← hk.len]; exact hi)⟩
      obtain ⟨ha1, ha2⟩ := hk.alike i r r' hrr (by rw [List.getElem?_eq_getElem hi, hir])
      have hrm := List.mem_of_getElem? hrr
      have hright := hpl.rows r hrm
      have hf := fine_rows ho.rows r hrm
      refine ⟨by rw [ha1, ← hf.1]; exact hright.all, fun p hpm => ?_⟩
      rw [ha2] at hpm
      exact ⟨(hright.on p hpm).1, (hright.on p hpm).2, hf.2 p hpm⟩
  · rw [hr.1 hc]
    exact hi
theorem fine_move {sl nd : Nat} {t t' : Tb} {o : Op} {w : World} (hi : ∀ ob ∈ t.objs, FineO nd sl ob) (ho : OpAt w o) (hr : MoveR sl nd t o (moveC sl nd t o) t') (hp : ∀ ob ∈ t'.objs, (rows ob).length = pN ob) : ∀ ob ∈ t'.objs, FineO nd sl ob := by
  by_cases hc : moveC sl nd t o = 0
  · obtain ⟨k, ob, ob', hk, hob, hright, hm, hx, hl, hobs⟩ := hr.2 hc
    intro x hxm
    have hpx := hp x hxm
    rw [hobs] at hxm
    rcases List.mem_or_eq_of_mem_set hxm with hx1 | rfl
    · exact hi x hx1
    · have hf := hi ob (List.mem_of_getElem? hob)
      have e1 : pl1 x = pl1 ob := by unfold pl1; rw [hm.plan]
      have e2 : pl2 x = pl2 ob := by unfold pl2; rw [hm.plan]
      have e3 : pl3 x = pl3 ob := by unfold pl3; rw [hm.plan]
      refine ⟨by rw [hm.num]; exact hf.num0, by rw [hm.num]; exact hf.num1, by rw [hm.name]; exact hf.nm, by rw [e1]; exact hf.l0, by rw [e1]; exact hf.l1, by rw [e2]; exact hf.c0, by rw [e2]; exact hf.c1, by rw [e3]; exact hf.p0, by rw [e3]; exact hf.p1, ⟨by rw [hm.len]; exact hf.rws.1, hpx⟩, fun r' hr' => ?_⟩
      obtain ⟨i, hi, hir⟩ := List.getElem_of_mem hr'
      obtain ⟨r, hrr⟩ : ∃ r, (rows ob)[i]? = some r := ⟨_, List.getElem?_eq_getElem (by rw [← hm.len]; exact hi)⟩
      obtain ⟨ha1, ha2⟩ := hm.each i r r' hrr (by rw [List.getElem?_eq_getElem hi, hir])
      have hold := hf.each r (List.mem_of_getElem? hrr)
      refine ⟨by rw [ha1]; exact hold.1, fun p hpm => ?_⟩
      rw [ha2] at hpm
      split at hpm
      · rename_i hij
        subst hij
        have hto : toRow t o = (rP r).set o.slot.toNat (pl o.node o.gen) := by
          unfold toRow rowOf
          have e1 : t.objs[(numAt t.objs o.num).toNat]? = some ob := by rw [hk]; exact hob
          rw [e1]
          simp only [hrr]
        have hon := hright.on p (by rw [hto]; exact hpm)
        refine ⟨hon.1, hon.2, ?_⟩
        rcases List.mem_or_eq_of_mem_set hpm with hp1 | rfl
        · exact (hold.2 p hp1).2.2
        · exact wf_u32 ho.gen
      · exact hold.2 p hpm
  · rw [hr.1 hc]
    exact hi
theorem fine_apply {sl nd : Nat} {t t' : Tb} {o : Op} {w : World} (hi : ∀ ob ∈ t.objs, FineO nd sl ob) (ho : OpAt w o) (hr : ApplyR sl nd t o w t') (hp : ∀ ob ∈ t'.objs, (rows ob).length = pN ob) : ∀ ob ∈ t'.objs, FineO nd sl ob := by
  unfold ApplyR at hr
  split at hr
  · rw [hr]
    split
    · exact hi
    · exact hi
  · split at hr
    · exact fine_commit hi ho hr hp
    · split at hr
      · split at hr
        · exact fun x hx => hi x ((removed_sub hr).mem hx)
        · rw [hr]; exact hi
      · split at hr
        · exact fine_move hi ho hr hp
        · rw [hr]; exact hi
theorem ls_apply {sl nd : Nat} {t t' : Tb} {o : Op} {w : World} (h0 : 0 ≤ t.ls) (h1 : t.ls ≤ 4294967295) (ho : OpAt w o) (hr : ApplyR sl nd t o w t') : 0 ≤ t'.ls ∧ t'.ls ≤ 4294967295 := by
  unfold ApplyR at hr
  split at hr
  · rw [hr]
    split
    · exact ⟨h0, h1⟩
    · exact ⟨h0, h1⟩
  · split at hr
    · by_cases hc : commitC sl nd t o = 0
      · obtain ⟨_, _, _, hl, _⟩ := hr.2 hc
        have := wf_u32 ho.num
        omega
      · rw [hr.1 hc]
        exact ⟨h0, h1⟩
    · split at hr
      · split at hr
        · rw [hr.2.1]; exact ⟨h0, h1⟩
        · rw [hr]; exact ⟨h0, h1⟩
      · split at hr
        · by_cases hc : moveC sl nd t o = 0
          · obtain ⟨_, _, _, _, _, _, _, _, hl, _⟩ := hr.2 hc
            rw [hl]; exact ⟨h0, h1⟩
          · rw [hr.1 hc]
            exact ⟨h0, h1⟩
        · rw [hr]; exact ⟨h0, h1⟩
theorem fine_view {nd sl : Nat} {a b : Obj} (h : FineO nd sl a) (hv : view a = view b) (hb : (rows b).length = pN b) (ha : ∀ r ∈ rows a, (rP r).length = rN r) (hr : ∀ r ∈ rows b, (rP r).length = rN r) : FineO nd sl b := by
  have e1 : pl1 a = pl1 b := by unfold pl1; rw [view_plan hv]
  have e2 : pl2 a = pl2 b := by unfold pl2; rw [view_plan hv]
  have e3 : pl3 a = pl3 b := by unfold pl3; rw [view_plan hv]
  refine ⟨by rw [← view_num hv]; exact h.num0, by rw [← view_num hv]; exact h.num1, by rw [← view_name hv]; exact h.nm, by rw [← e1]; exact h.l0, by rw [← e1]; exact h.l1, by rw [← e2]; exact h.c0, by rw [← e2]; exact h.c1, by rw [← e3]; exact h.p0, by rw [← e3]; exact h.p1, ⟨by rw [← rows_len hv]; exact h.rws.1, hb⟩, fun r hrm => ?_⟩
  have hm : rP r ∈ (rows a).map rP := by rw [view_rows hv]; exact List.mem_map_of_mem hrm
  obtain ⟨r0, hr0, he⟩ := List.mem_map.1 hm
  have h0 := h.each r0 hr0
  exact ⟨by rw [← hr r hrm, ← he, ha r0 hr0]; exact h0.1, fun p hp => h0.2 p (by rw [he]; exact hp)⟩
/-- Behind an operation. -/
theorem good_apply {sl nd : Nat} {t r t' r' : Tb} {o : Op} {A : Option Addr} {c : Nat} {l : List Row} {w W V : World} {gt : Nat} (h : Good sl nd t r) (hs : Same o.rows l) (ho : OpAt w (withRows o A c l)) (ht : ApplyR sl nd t (withRows o A c l) w t') (hr : RApplyR sl nd r o r') (hT : TbAt W gt sl nd t') (hD : Doc V r') :
    applyC sl nd t (withRows o A c l) = rApplyC sl nd r o ∧ Good sl nd t' r' := by
  obtain ⟨h1, h2, h3⟩ := sim_apply h.both hs ht hr
  have hTk := Sh.ok_off hT.ok
  have hD : (Sh.sl objS).ok V (r'.A, r'.n, r'.c, r'.objs) := hD
  have htp : ∀ ob ∈ t'.objs, (rows ob).length = pN ob := fun ob hob => by
    obtain ⟨i, hi, hix⟩ := List.getElem_of_mem hob
    exact (sl_len (obj_ok (sl_each hTk (i := i) (by rw [List.getElem?_eq_getElem hi, hix]))).2.2.2).1
  have hrp : ∀ ob ∈ r'.objs, (rows ob).length = pN ob := fun ob hob => by
    obtain ⟨i, hi, hix⟩ := List.getElem_of_mem hob
    exact (sl_len (obj_ok (sl_each hD (i := i) (by rw [List.getElem?_eq_getElem hi, hix]))).2.2.2).1
  have hft := fine_apply h.ft ho ht htp
  have hls := ls_apply h.l0 h.l1 ho ht
  refine ⟨h1, ⟨h2, h3, (sl_len hTk).1, (sl_len hD).1, htp, hrp⟩, inv_apply h.inv h.both.tn ho ht, hft, fun b hb => ?_, hls.1, hls.2⟩
  obtain ⟨i, hi, hix⟩ := List.getElem_of_mem hb
  obtain ⟨a, ha, hv⟩ := view_at h2.objs.symm (i := i) (a := b) (by rw [List.getElem?_eq_getElem hi, hix])
  exact fine_view (hft a (List.mem_of_getElem? ha)) hv.symm (hrp b hb) (objs_rows hTk a (List.mem_of_getElem? ha)) (objs_rows hD b hb)
theorem good_new (sl nd : Nat) : Good sl nd ⟨1, 0, none, 0, 0, []⟩ ⟨1, 0, none, 0, 0, []⟩ :=
  ⟨⟨⟨rfl, rfl, rfl⟩, List.Pairwise.nil, rfl, rfl, fun _ h => (by cases h), fun _ h => (by cases h)⟩, inv_new, fun _ h => (by cases h), fun _ h => (by cases h), by decide, by decide⟩
end Go.Proofs.Ytipmkddcdnbihaa.Tbl
