/- The document's tables: an operation is done; new tables; walked. (Printed by gen_tableZ.py.) -/
import Derived.Test.YtfhgjopoohfhjaaTableY
namespace Go.Proofs.Ytfhgjopoohfhjaa.Tbl
open Go.RowKit Base Step Vec Shape Erase
def rRemoveC (t : Tb) (o : Op) : Int := if nameAt t.objs o.name < 0 then 6 else 0
noncomputable def rApplyC (sl nd : Nat) (t : Tb) (o : Op) : Int :=
  if o.kind = 1 then beginC t.nx o
  else if o.kind = 2 then rCommitC sl nd t o
  else if o.kind = 3 then rRemoveC t o
  else if o.kind = 4 then moveC sl nd t o else 1
def RApplyR (sl nd : Nat) (t : Tb) (o : Op) (t' : Tb) : Prop :=
  if o.kind = 1 then t' = (if beginC t.nx o = 0 then { t with nx := t.nx + 1 } else t)
  else if o.kind = 2 then RCommitR sl nd t o (rCommitC sl nd t o) t'
  else if o.kind = 3 then (if nameAt t.objs o.name < 0 then t' = t else removed t (nameAt t.objs o.name).toNat t')
  else if o.kind = 4 then MoveR sl nd t o (moveC sl nd t o) t' else t' = t
theorem nameFrom_spec (s : ByteArray) : ∀ (l : List Obj) (i : Nat), (nameFrom s l i = -1 ∧ ∀ o ∈ l, name o ≠ s) ∨ ∃ j o, nameFrom s l i = ((i + j : Nat) : Int) ∧ l[j]? = some o ∧ name o = s
  | [], i => .inl ⟨rfl, by simp⟩
  | o :: l, i => by
    unfold nameFrom
    by_cases h : name o = s
    · rw [if_pos h]
      exact .inr ⟨0, o, rfl, rfl, h⟩
    · rw [if_neg h]
      rcases nameFrom_spec s l (i + 1) with ⟨h1, h2⟩ | ⟨j, p, h1, h2, h3⟩
      · exact .inl ⟨h1, fun q hq => (List.mem_cons.1 hq).elim (fun e => e ▸ h) (h2 q)⟩
      · exact .inr ⟨j + 1, p, by rw [h1]; congr 1; omega, h2, h3⟩
set_option maxRecDepth 100000 in
theorem rNew_calls (sl nd : Nat) (w : World) :
    Calls Try.prog 79 #[.int .i64 sl, .int .i64 nd] w fun e w' => e = .returned (tabV sl nd ⟨1, 0, none, 0, 0, []⟩) ∧ Ext w w' ∧ Doc w' ⟨1, 0, none, 0, 0, []⟩ := by
  have hz := at_new w (.cells tab0 149)
  have he := Ext.new w (.cells tab0 149)
  go_enter Try.func79, Try.ntmps79
  go_wp2_with (refine RowSt.wpList_put 149 _ _ rfl rfl rfl w.heap.size (tabC sl nd ⟨1, 0, none, 0, 0, []⟩) rfl rfl 149 _ hz (by kernel_rfl) rfl (by simp [Value.oneCell']) ?_; intro w8 hb8 hc8)
  refine bodyPost_ret (v := tabV sl nd ⟨1, 0, none, 0, 0, []⟩) (results_cell_row rfl _ _ w.heap.size 149 _ (0, 0) _ rfl hb8 Try.underlying149 rfl (by kernel_rfl)) rfl ?_
  exact ⟨rfl, he.chg hc8 fun i hi => by have hi : i = w.heap.size := hi; omega, rfl, Nat.le_refl _, by decide, fun _ => rfl, fun i x hx => (by cases hx)⟩
set_option maxRecDepth 100000 in
set_option maxHeartbeats 8000000 in
theorem rApply_calls (sl nd : Nat) (t : Tb) (o : Op) (w0 w : World) (hw0 : Sub w0 w) (h0 : Doc w0 t) (hn : t.n ≤ 1099511627776) (hs : ∀ ob ∈ t.objs, Small ob) (hr : ∀ ob ∈ t.objs, ∀ r ∈ rows ob, rN r = sl) (ho0 : OpAt w0 o) (hx0 : 0 ≤ t.nx) (hx1 : t.nx ≤ 4294967295) :
    Calls Try.prog 80 #[tabV sl nd t, opV o] w (RDid w0 w sl nd (rApplyC sl nd t o) fun t' => RApplyR sl nd t o t') := by
  obtain ⟨Q, hQ⟩ : ∃ Q, Q = RDid w0 w sl nd (rApplyC sl nd t o) fun t' => RApplyR sl nd t o t' := ⟨_, rfl⟩
  have HQ := Lib.hid hQ
  rw [← hQ]
  clear hQ
  have h := Sh.ok_le hw0 _ _ h0
  have ho := ho0.sub hw0
  have H := Lib.hid h
  have HO := Lib.hid ho
  have H0 := Lib.hid h0
  have HO0 := Lib.hid ho0
  have HS := Lib.hid hs
  have HR := Lib.hid hr
  have e0 := Lib.hid (((Ext.new w (.cells (tabC sl nd t) 149)).alloc (.cells (opC o) 116)).alloc (.cells tab0 149))
  have hbt := ((Ext.new (w.alloc (.cells (tabC sl nd t) 149)) (.cells (opC o) 116)).alloc (.cells tab0 149)).at_ (at_new w (.cells (tabC sl nd t) 149))
  have hbo := (Ext.new ((w.alloc (.cells (tabC sl nd t) 149)).alloc (.cells (opC o) 116)) (.cells tab0 149)).at_ (at_new (w.alloc (.cells (tabC sl nd t) 149)) (.cells (opC o) 116))
  have hbz := at_new ((w.alloc (.cells (tabC sl nd t) 149)).alloc (.cells (opC o) 116)) (.cells tab0 149)
  have hsz : (w.alloc (.cells (tabC sl nd t) 149)).heap.size = w.heap.size + 1 := by simp
  have hsz2 : ((w.alloc (.cells (tabC sl nd t) 149)).alloc (.cells (opC o) 116)).heap.size = w.heap.size + 2 := by simp
  rw [hsz] at hbo
  rw [hsz2] at hbz
  clear h ho h0 ho0 hs hr hsz hsz2
  -- an answer that leaves the table as it was
  have hno : ∀ (code : Int) (W : World), rApplyC sl nd t o = code ∧ RApplyR sl nd t o t → Ext w W → Q (.returned (.tuple #[tabV sl nd t, .int .i64 code])) W := fun code W hc he => by
    rw [HQ.out, hc.1]
    exact ⟨t, rfl, he, fun W hW _ => Sh.ok_le hW _ _ H0.out, hc.2⟩
  have HNO := Lib.hid hno
  clear hno
  go_enter Try.func80, Try.ntmps80
  go_upto_region 1 with fail
  generalize ((w.alloc (.cells (tabC sl nd t) 149)).alloc (.cells (opC o) 116)).alloc (.cells tab0 149) = w1 at *
  have HBT := Lib.hid hbt
  have HBO := Lib.hid hbo
  have HBZ := Lib.hid hbz
  have o0 : w1.cell? ⟨w.heap.size + 1, 0, none⟩ = some (.int .i64 o.kind) := blk_cell (i := 0) hbo (Ext.refl _) rfl
  have o1 : w1.cell? ⟨w.heap.size + 1, 1, none⟩ = some (.int .u32 o.num) := blk_cell (i := 1) hbo (Ext.refl _) rfl
  have o2 : w1.cell? ⟨w.heap.size + 1, 2, none⟩ = some (.string o.name) := blk_cell (i := 2) hbo (Ext.refl _) rfl
  have t0 := blk_cell (i := 0) hbt (Ext.refl _) rfl; have tf0 := Pack.free_of hbt 0; have t1 := blk_cell (i := 1) hbt (Ext.refl _) rfl; have tf1 := Pack.free_of hbt 1; have t2 := blk_cell (i := 2) hbt (Ext.refl _) rfl; have tf2 := Pack.free_of hbt 2; have t3 := blk_cell (i := 3) hbt (Ext.refl _) rfl; have tf3 := Pack.free_of hbt 3; have t4 := blk_cell (i := 4) hbt (Ext.refl _) rfl; have tf4 := Pack.free_of hbt 4
  by_cases h1 : o.kind = 1
  · have hk : (o.kind == 1) = true := by simp [h1]
    have HK := Lib.hid h1
    clear h1
    by_cases hb : o.num = t.nx ∧ o.num ≠ 4294967295
    · have hbc : beginC t.nx o = 0 := by unfold beginC; rw [if_pos hb]
      have HBC := Lib.hid hbc
      obtain ⟨h1, h2⟩ := hb
      have hd1 : (o.num != t.nx) = false := by simp [h1]
      have hd2 : (o.num == 4294967295) = false := by simp [h2]
      have hw : IntKind.u32.wrap (t.nx + 1) = t.nx + 1 := wrap_u32 (by omega) (by omega)
      clear hbc h1 h2
      go_upto_region 6 with fail
      have hs2 := set_blk (i := 2) hbt (.int .u32 (t.nx + 1))
      have hc2 : Chg (fun i => i = w.heap.size) w1 (w1.setCell ⟨w.heap.size, 2, none⟩ (.int .u32 (t.nx + 1))) := (Chg.refl (fun i => i = w.heap.size) w1).setCell (p := ⟨w.heap.size, 2, none⟩) rfl _
      have HBT2 : Hid ((w1.setCell ⟨w.heap.size, 2, none⟩ (.int .u32 (t.nx + 1))).heap[w.heap.size]? = some (.cells (tabC sl nd { t with nx := t.nx + 1 }) 149 (0, 0))) := Lib.hid (by simpa using hs2)
      have hz2 := hc2.at_ hbz (by omega)
      have HE2 := Lib.hid (e0.out.chg hc2 fun i hi => by have hi : i = w.heap.size := hi; omega)
      clear t0 t1 t2 t3 t4 tf0 tf1 tf2 tf3 tf4 o0 o1 o2 hs2 hc2 hbt hbo hbz
      generalize w1.setCell ⟨w.heap.size, 2, none⟩ (.int .u32 (t.nx + 1)) = w2 at *
      have hbt := HBT2.out
      have t0 := blk_cell (i := 0) hbt (Ext.refl _) rfl; have tf0 := Pack.free_of hbt 0; have t1 := blk_cell (i := 1) hbt (Ext.refl _) rfl; have tf1 := Pack.free_of hbt 1; have t2 := blk_cell (i := 2) hbt (Ext.refl _) rfl; have tf2 := Pack.free_of hbt 2; have t3 := blk_cell (i := 3) hbt (Ext.refl _) rfl; have tf3 := Pack.free_of hbt 3; have t4 := blk_cell (i := 4) hbt (Ext.refl _) rfl; have tf4 := Pack.free_of hbt 4
      go_wp2_with (refine RowSt.wpList_put 149 _ _ rfl rfl rfl (w.heap.size + 2) (tabC sl nd { t with nx := t.nx + 1 }) rfl rfl 149 _ hz2 (by kernel_rfl) rfl (by simp [Value.oneCell']) ?_; intro w8 hb8 hc8)
      refine bodyPost_ret (v := .tuple #[tabV sl nd { t with nx := t.nx + 1 }, .int .i64 0]) (RowSt.results_cell_tmp (p := 4) (q := 5) rfl _ _ (w.heap.size + 2) 149 _ (0, 0) _ rfl hb8 Try.underlying149 rfl (by kernel_rfl)) rfl ?_
      have HEZ := HE2.out.chg hc8 fun i hi => by have hi : i = w.heap.size + 2 := hi; omega
      rw [HQ.out]
      refine ⟨{ t with nx := t.nx + 1 }, ?_, HEZ, fun W hW _ => Sh.ok_le hW _ _ H0.out, ?_⟩
      · unfold rApplyC
        rw [if_pos HK.out, HBC.out]
      · show RApplyR sl nd t o _
        unfold RApplyR
        rw [if_pos HK.out, if_pos HBC.out]
    · have hbc : beginC t.nx o = 28 := by unfold beginC; rw [if_neg hb]
      have HC : Hid (rApplyC sl nd t o = 28 ∧ RApplyR sl nd t o t) := Lib.hid (by
        unfold rApplyC RApplyR
        rw [if_pos HK.out, if_pos HK.out, hbc, if_neg (by decide)]
        exact ⟨rfl, rfl⟩)
      by_cases h2 : o.num = t.nx
      · have h3 : o.num = 4294967295 := by
          rcases Decidable.em (o.num = 4294967295) with h | h
          · exact h
          · exact absurd ⟨h2, h⟩ hb
        have hd1 : (o.num != t.nx) = false := by simp [h2]
        have hd2 : (o.num == 4294967295) = true := by simp [h3]
        clear hbc hb h2 h3
        go_wp2_with (refine RowSt.wpList_put 149 _ _ rfl rfl rfl (w.heap.size + 2) (tabC sl nd t) rfl rfl 149 _ hbz (by kernel_rfl) rfl (by simp [Value.oneCell']) ?_; intro w8 hb8 hc8)
        refine bodyPost_ret (v := .tuple #[tabV sl nd t, .int .i64 28]) (RowSt.results_cell_tmp (p := 4) (q := 5) rfl _ _ (w.heap.size + 2) 149 _ (0, 0) _ rfl hb8 Try.underlying149 rfl (by kernel_rfl)) rfl ?_
        exact HNO.out _ _ HC.out (e0.out.chg hc8 fun i hi => by have hi : i = w.heap.size + 2 := hi; omega)
      · have hd1 : (o.num != t.nx) = true := by simp [h2]
        clear hbc hb h2
        go_wp2_with (refine RowSt.wpList_put 149 _ _ rfl rfl rfl (w.heap.size + 2) (tabC sl nd t) rfl rfl 149 _ hbz (by kernel_rfl) rfl (by simp [Value.oneCell']) ?_; intro w8 hb8 hc8)
        refine bodyPost_ret (v := .tuple #[tabV sl nd t, .int .i64 28]) (RowSt.results_cell_tmp (p := 4) (q := 5) rfl _ _ (w.heap.size + 2) 149 _ (0, 0) _ rfl hb8 Try.underlying149 rfl (by kernel_rfl)) rfl ?_
        exact HNO.out _ _ HC.out (e0.out.chg hc8 fun i hi => by have hi : i = w.heap.size + 2 := hi; omega)
  by_cases h2 : o.kind = 2
  · have hk : (o.kind == 2) = true := by simp [h2]
    have HK := Lib.hid h2
    have hk1 : (o.kind == 1) = false := by simp [h1]
    have HK1 := Lib.hid h1
    clear h1 h2
    go_wp2_with (refine wpList_load_rowG rfl 116 _ rfl (w.heap.size + 1) rfl 116 (opC o) (0, 0) _ hbo Try.underlying116 rfl (by kernel_rfl) ?_)
    refine (rCommit_calls sl nd t o w0 w1 (hw0.ext e0.out) H0.out hn HO0.out).mono ?_
    rintro e w2 ⟨t2, rfl, he2, hd2, hr2⟩
    have hz2 := he2.at_ hbz
    have HE2 := Lib.hid (e0.out.trans he2)
    have HX2 := Lib.hid he2
    have HD2 := Lib.hid hd2
    have HR2 := Lib.hid hr2
    have hlt1 : w.heap.size + 2 < w1.heap.size := Pack.lt_of_at hbz
    clear he2 hd2 hr2
    go_wp2_with (refine RowSt.wpList_put 149 _ _ rfl rfl rfl (w.heap.size + 2) (tabC sl nd t2) rfl rfl 149 _ hz2 (by kernel_rfl) rfl (by simp [Value.oneCell']) ?_; intro w8 hb8 hc8)
    refine bodyPost_ret (v := .tuple #[tabV sl nd t2, .int .i64 (rCommitC sl nd t o)]) (RowSt.results_cell_tmp (p := 4) (q := 5) rfl _ _ (w.heap.size + 2) 149 _ (0, 0) _ rfl hb8 Try.underlying149 rfl (by kernel_rfl)) rfl ?_
    have HEZ := HE2.out.chg hc8 fun i hi => by have hi : i = w.heap.size + 2 := hi; omega
    rw [HQ.out]
    refine ⟨t2, ?_, HEZ, fun W hW hk => HD2.out W hW fun i o9 h1 h2 h3 => ?_, ?_⟩
    · unfold rApplyC
      rw [if_neg HK1.out, if_pos HK.out]
    · exact hk i o9 (by omega) (hc8.at_ h2 (fun e => by have e : i = w.heap.size + 2 := e; omega)) h3
    · show RApplyR sl nd t o t2
      unfold RApplyR
      rw [if_neg HK1.out, if_pos HK.out]
      exact HR2.out
  by_cases h3 : o.kind = 3
  · have hk : (o.kind == 3) = true := by simp [h3]
    have HK := Lib.hid h3
    have hk1 : (o.kind == 1) = false := by simp [h1]
    have HK1 := Lib.hid h1
    have hk2 : (o.kind == 2) = false := by simp [h2]
    have HK2 := Lib.hid h2
    clear h1 h2 h3
    go_wp2_with fail
    refine (rFind_calls sl nd t o.name w1 (Sh.ok_ext e0.out _ _ H.out) hn).mono ?_
    rintro e w2 ⟨rfl, he2⟩
    have HX2 := Lib.hid he2
    have HE2 := Lib.hid (e0.out.trans he2)
    have hbt2 := he2.at_ hbt
    have hz2 := he2.at_ hbz
    clear he2 t0 t1 t2 t3 t4 tf0 tf1 tf2 tf3 tf4 o0 o1 o2 hbt hbo hbz
    have t0 := blk_cell (i := 0) hbt2 (Ext.refl _) rfl; have tf0 := Pack.free_of hbt2 0; have t1 := blk_cell (i := 1) hbt2 (Ext.refl _) rfl; have tf1 := Pack.free_of hbt2 1; have t2 := blk_cell (i := 2) hbt2 (Ext.refl _) rfl; have tf2 := Pack.free_of hbt2 2; have t3 := blk_cell (i := 3) hbt2 (Ext.refl _) rfl; have tf3 := Pack.free_of hbt2 3; have t4 := blk_cell (i := 4) hbt2 (Ext.refl _) rfl; have tf4 := Pack.free_of hbt2 4
    rcases nameFrom_spec o.name t.objs 0 with ⟨hk0, _⟩ | ⟨k, ob, hk0, hob, hobn⟩
    · have hk0 : nameAt t.objs o.name = -1 := hk0
      have HC : Hid (rApplyC sl nd t o = 6 ∧ RApplyR sl nd t o t) := Lib.hid (by
        unfold rApplyC RApplyR rRemoveC
        rw [if_neg HK1.out, if_neg HK2.out, if_pos HK.out, if_pos (by omega), if_neg HK1.out, if_neg HK2.out, if_pos HK.out, if_pos (by omega)]
        exact ⟨rfl, rfl⟩)
      rw [hk0]
      clear hk0
      go_wp2_with (refine RowSt.wpList_put 149 _ _ rfl rfl rfl (w.heap.size + 2) (tabC sl nd t) rfl rfl 149 _ hz2 (by kernel_rfl) rfl (by simp [Value.oneCell']) ?_; intro w8 hb8 hc8)
      refine bodyPost_ret (v := .tuple #[tabV sl nd t, .int .i64 6]) (RowSt.results_cell_tmp (p := 4) (q := 5) rfl _ _ (w.heap.size + 2) 149 _ (0, 0) _ rfl hb8 Try.underlying149 rfl (by kernel_rfl)) rfl ?_
      exact HNO.out _ _ HC.out (HE2.out.chg hc8 fun i hi => by have hi : i = w.heap.size + 2 := hi; omega)
    · have hk0 : nameAt t.objs o.name = (k : Nat) := by rw [← Nat.zero_add k]; exact hk0
      have HK0 := Lib.hid hk0
      rw [hk0]
      have hln := (sl_len H.out).1
      have hkn : k < t.n := by have := (List.getElem?_eq_some_iff.1 hob).1; omega
      have hnc := (sl_len H.out).2.1
      have hA0 := (sl_len H.out).2.2.2
      have hcm := (sl_len H.out).2.2.1
      have HL := Lib.hid hln
      clear hln hob hobn hk0
      go_upto_region 13 with fail
      have HB2 := Lib.hid hbt2
      have HZ2 := Lib.hid hz2
      clear t0 t1 t2 t3 t4 tf0 tf1 tf2 tf3 tf4
      have y4 : ∀ W, Ext w2.drew W → W.cell? ⟨w.heap.size, 4, none⟩ = some (.slice t.A t.n t.c) := fun W hW => blk_cell (i := 4) HB2.out (drew_ext hW) rfl
      have HL1 : Hid ((cellsL objS (t.objs.take k)).length = k * 6) := Lib.hid (by rw [cellsL_length, List.length_take, HL.out, Nat.min_eq_left (by omega)]; rfl)
      have HL2 : Hid ((cellsL objS (t.objs.drop (k + 1))).length = (t.n - (k + 1)) * 6) := Lib.hid (by rw [cellsL_length, List.length_drop, HL.out]; rfl)
      have HD0 := Lib.hid (HE2.out.trans (Ext.drew (Ext.refl _)))
      have hw1 : IntKind.i64.wrap (((k : Nat) : Int) + 1) = ((k : Nat) : Int) + 1 := IntWalk.i64_in _ (by omega)
      clear hbt2 hz2
      refine Lex.wp_region_r [0, 1, 2, 3, 4, 5, 6, 7, 8, 9, 10, 11, 12] [13] [(5, 0), (11, 5)] [(0, Lex.rowR w2.drew 234 6 0 []), (5, Lex.rowR w2.drew 234 6 k (cellsL objS (t.objs.take k))), (11, Lex.rowR w2.drew 234 6 (t.n - 1) (cellsL objS (t.objs.take k) ++ cellsL objS (t.objs.drop (k + 1))))] (by kernel_rfl) (by kernel_rfl) (by kernel_rfl) (by repeat (first | exact Lex.ok_nilR | refine Lex.ok_consR (by first | exact Lex.rowR_ok | exact Tbl.rdR_ok | assumption) ?_)) ?_; simp only [Lex.pick, List.getElem?_cons_succ, List.getElem?_cons_zero, List.map_cons, List.map_nil]
      refine Lex.lexR_loose (by rfl) (by rfl) (fun W hW hAP => ?_) ?_
      · have hE := hW.1
        clear hW
        go_simp
        exact Lex.rowR_new hE.size (Ext.new _ _) (own_empty (at_new _ _) (Nat.le_refl _))
      rintro v fx ⟨A0, c0, rfl⟩
      simp only [Act.put, List.setIfInBounds_toArray, List.set_cons_zero, List.set_cons_succ]
      iterate 3 (first | (refine Lex.lexR_skip (by rfl) ?_; simp only [Act.put, List.setIfInBounds_toArray, List.set_cons_zero, List.set_cons_succ]) | (refine Lex.lexR_still (by rfl) (by rfl) ?_; apply Exists.intro; refine ⟨fun W hW => ?_, ?_⟩; (have hE := hW; have hE2 := Lex.ext_drew hE; clear hW; go_simp; try with_reducible rfl); simp only [Act.put, List.setIfInBounds_toArray, List.set_cons_zero, List.set_cons_succ]))
      refine Lex.lexR_still (by rfl) (by rfl) ⟨.slice t.A k t.c, fun W hW => ?_, ?_⟩
      · have hE := hW
        clear hW
        have q1 : ((k : Nat) : Int) ≤ ((t.c : Nat) : Int) := by omega
        cases hAA : t.A with
        | none =>
          have h1 := hA0 hAA
          omega
        | some ad =>
          go_simp
      simp only [Act.put, List.setIfInBounds_toArray, List.set_cons_zero, List.set_cons_succ]
      refine Lex.lexR_loose (by rfl) (by rfl) (fun W hW hAP => ?_) ?_
      · obtain ⟨hown, hfo⟩ := ((hW.2 0 (by kernel_rfl) rfl).2 rfl) _ _ rfl
        have hE := hW.1
        clear hW
        refine Lex.app_looseR (.tmp 43) (.tmp 47) _ rfl 234 _ 6 72 Try.underlying147 infoRObj rfl (by decide) (by decide) rfl hown (fun i hi => ⟨0, by simp, .inr ⟨rfl, hfo i hi⟩⟩) rfl HL1.out (fun h => by have := hA0 h; omega) (fun ad ha j u hu => (HD0.out.trans hE).cell_ (ok_take H.out (by decide) k ad ha j u hu)) (cellsL_one_ _ _) (by omega) hE.size (Nat.zero_add _) rfl
      rintro v fx ⟨A1, c1, rfl⟩
      simp only [Act.put, List.setIfInBounds_toArray, List.set_cons_zero, List.set_cons_succ]
      iterate 4 (first | (refine Lex.lexR_skip (by rfl) ?_; simp only [Act.put, List.setIfInBounds_toArray, List.set_cons_zero, List.set_cons_succ]) | (refine Lex.lexR_still (by rfl) (by rfl) ?_; apply Exists.intro; refine ⟨fun W hW => ?_, ?_⟩; (have hE := hW; have hE2 := Lex.ext_drew hE; clear hW; go_simp; try with_reducible rfl); simp only [Act.put, List.setIfInBounds_toArray, List.set_cons_zero, List.set_cons_succ]))
      refine Lex.lexR_still (by rfl) (by rfl) ⟨.slice (cutA t.A (k + 1) t.c 6) (t.n - (k + 1)) (t.c - (k + 1)), fun W hW => ?_, ?_⟩
      · have hE := hW
        clear hW
        clear hw1
        have q1 : ((k + 1 : Nat) : Int) ≤ ((t.n : Nat) : Int) := by omega
        have q2 : ((t.n : Nat) : Int) ≤ ((t.c : Nat) : Int) := by omega
        unfold cutA
        cases hAA : t.A with
        | none =>
          have h1 := hA0 hAA
          omega
        | some ad =>
          by_cases hpc : k + 1 = t.c
          · have h3 : t.n = t.c := by omega
            go_simp
            exact fun h => absurd (h (by omega)) (by omega)
          · go_simp
            rw [if_pos ⟨by omega, by omega⟩, if_neg (fun h => hpc h.symm)]
      simp only [Act.put, List.setIfInBounds_toArray, List.set_cons_zero, List.set_cons_succ]
      refine Lex.lexR_loose (by rfl) (by rfl) (fun W hW hAP => ?_) ?_
      · obtain ⟨hown, hfo⟩ := ((hW.2 5 (by kernel_rfl) rfl).2 rfl) _ _ rfl
        have hE := hW.1
        clear hW
        refine Lex.app_looseR (.tmp 48) (.tmp 53) _ rfl 234 _ 6 72 Try.underlying147 infoRObj rfl (by decide) (by decide) rfl hown (fun i hi => ⟨5, by simp, .inr ⟨rfl, hfo i hi⟩⟩) rfl HL2.out (fun h => by have := hA0 (cutA_none h); omega) (fun ad ha j u hu => (HD0.out.trans hE).cell_ (ok_drop H.out (by decide) (k + 1) ad ha j u hu)) (cellsL_one_ _ _) (by omega) hE.size (by omega) rfl
      rintro v fx ⟨A4, c4, rfl⟩
      simp only [Act.put, List.setIfInBounds_toArray, List.set_cons_zero, List.set_cons_succ]
      repeat (first | (refine Lex.lexR_skip (by rfl) ?_; simp only [Act.put, List.setIfInBounds_toArray, List.set_cons_zero, List.set_cons_succ]) | (refine Lex.lexR_still (by rfl) (by rfl) ?_; apply Exists.intro; refine ⟨fun W hW => ?_, ?_⟩; (have hE := hW; have hE2 := Lex.ext_drew hE; clear hW; go_simp; try with_reducible rfl); simp only [Act.put, List.setIfInBounds_toArray, List.set_cons_zero, List.set_cons_succ]))
      refine Lex.lexR_nil (fun W hW hF => ?_)
      have HOWN := Lib.hid (((hF 11 rfl).2 rfl) _ _ rfl).1
      have HEW := Lib.hid (Lex.ext_drew hW)
      clear hW hF y4
      have hbw := HEW.out.at_ HB2.out
      have hzw := HEW.out.at_ HZ2.out
      have hs8 := set_blk (i := 4) hbw (.slice A4 (t.n - 1) c4)
      have hc8 : Chg (fun i => i = w.heap.size) W (W.setCell ⟨w.heap.size, 4, none⟩ (.slice A4 (t.n - 1) c4)) := (Chg.refl (fun i => i = w.heap.size) W).setCell (p := ⟨w.heap.size, 4, none⟩) rfl _
      have HZ8 := Lib.hid (hc8.at_ hzw (by omega))
      have hlt2 : w.heap.size + 2 < w2.heap.size := Pack.lt_of_at HZ2.out
      have HO8 : Hid (New w2.drew (W.setCell ⟨w.heap.size, 4, none⟩ (.slice A4 (t.n - 1) c4)) 234 6 A4 (t.n - 1) c4 (cellsL objS (t.objs.take k) ++ cellsL objS (t.objs.drop (k + 1)))) := Lib.hid (HOWN.out.chg hc8 fun i (hi : w2.heap.size ≤ i) k => by omega)
      have hb8' : (W.setCell ⟨w.heap.size, 4, none⟩ (.slice A4 (t.n - 1) c4)).heap[w.heap.size]? = some (.cells (tabC sl nd ⟨t.nx, t.ls, A4, t.n - 1, c4, t.objs.take k ++ t.objs.drop (k + 1)⟩) 149 (0, 0)) := by simpa using hs8
      have HE8 := Lib.hid ((HE2.out.trans HEW.out).chg hc8 fun i hi => by have hi : i = w.heap.size := hi; omega)
      have HB8 := Lib.hid hb8'
      have f4 := Pack.free_of hbw 4
      have g4 := blk_cell (i := 4) hbw (Ext.refl _) rfl
      clear hs8 hc8 hzw hb8'
      go_wp2_with fail
      try simp only [Lex.onlyN]
      go_upto_region 14 with fail
      generalize W.setCell ⟨w.heap.size, 4, none⟩ (.slice A4 (t.n - 1) c4) = w8 at *
      have hb8 := HB8.out
      have t0 := blk_cell (i := 0) hb8 (Ext.refl _) rfl; have tf0 := Pack.free_of hb8 0; have t1 := blk_cell (i := 1) hb8 (Ext.refl _) rfl; have tf1 := Pack.free_of hb8 1; have t2 := blk_cell (i := 2) hb8 (Ext.refl _) rfl; have tf2 := Pack.free_of hb8 2; have t3 := blk_cell (i := 3) hb8 (Ext.refl _) rfl; have tf3 := Pack.free_of hb8 3; have t4 := blk_cell (i := 4) hb8 (Ext.refl _) rfl; have tf4 := Pack.free_of hb8 4
      clear f4 g4 hbw
      go_wp2_with (refine RowSt.wpList_put 149 _ _ rfl rfl rfl (w.heap.size + 2) (tabC sl nd ⟨t.nx, t.ls, A4, t.n - 1, c4, t.objs.take k ++ t.objs.drop (k + 1)⟩) rfl rfl 149 _ HZ8.out (by kernel_rfl) rfl (by simp [Value.oneCell']) ?_; intro w9 hb9 hc9)
      refine bodyPost_ret (v := .tuple #[tabV sl nd ⟨t.nx, t.ls, A4, t.n - 1, c4, t.objs.take k ++ t.objs.drop (k + 1)⟩, .int .i64 0]) (RowSt.results_cell_tmp (p := 4) (q := 5) rfl _ _ (w.heap.size + 2) 149 _ (0, 0) _ rfl hb9 Try.underlying149 rfl (by kernel_rfl)) rfl ?_
      have HE9 : Ext w w9 := HE8.out.chg hc9 fun i hi => by have hi : i = w.heap.size + 2 := hi; omega
      have hrow : New w2.drew w9 234 6 A4 (t.n - 1) c4 (cellsL objS (t.objs.take k ++ t.objs.drop (k + 1))) := by
        have h1 := HO8.out.chg hc9 fun i (hi : w2.heap.size ≤ i) e => by have e : i = w.heap.size + 2 := e; omega
        rw [cellsL_app]
        exact h1
      rw [HQ.out]
      refine ⟨⟨t.nx, t.ls, A4, t.n - 1, c4, t.objs.take k ++ t.objs.drop (k + 1)⟩, ?_, HE9, fun WK hW0 hWk => ?_, ?_⟩
      · unfold rApplyC rRemoveC
        rw [if_neg HK1.out, if_neg HK2.out, if_pos HK.out, if_neg (by rw [HK0.out]; omega)]
      · have hrowK := keepE hrow (by decide) HE2.out.size hWk
        refine ok_own (W := WK) hrowK (by decide) (by simp [HL.out]; omega) (fun x hx => ?_) (fun a v _ hc => hc) (own_max hrow)
        rcases List.mem_append.1 hx with hx | hx
        · obtain ⟨i, hi, hix⟩ := List.getElem_of_mem (List.mem_of_mem_take hx)
          exact Sh.ok_le hW0 _ _ (sl_each H0.out (i := i) (by rw [List.getElem?_eq_getElem hi, hix]))
        · obtain ⟨i, hi, hix⟩ := List.getElem_of_mem (List.mem_of_mem_drop hx)
          exact Sh.ok_le hW0 _ _ (sl_each H0.out (i := i) (by rw [List.getElem?_eq_getElem hi, hix]))
      · show RApplyR sl nd t o _
        unfold RApplyR
        rw [if_neg HK1.out, if_neg HK2.out, if_pos HK.out, if_neg (by rw [HK0.out]; omega), HK0.out]
        exact ⟨rfl, rfl, rfl⟩
  by_cases h4 : o.kind = 4
  · have hk : (o.kind == 4) = true := by simp [h4]
    have HK := Lib.hid h4
    have hk1 : (o.kind == 1) = false := by simp [h1]
    have HK1 := Lib.hid h1
    have hk2 : (o.kind == 2) = false := by simp [h2]
    have HK2 := Lib.hid h2
    have hk3 : (o.kind == 3) = false := by simp [h3]
    have HK3 := Lib.hid h3
    clear h1 h2 h3 h4
    go_wp2_with (refine wpList_load_rowG rfl 116 _ rfl (w.heap.size + 1) rfl 116 (opC o) (0, 0) _ hbo Try.underlying116 rfl (by kernel_rfl) ?_)
    refine (rMove_calls sl nd t o w0 w1 (hw0.ext e0.out) H0.out hn HS.out HR.out HO0.out).mono ?_
    rintro e w2 ⟨t2, rfl, he2, hd2, hr2⟩
    have hz2 := he2.at_ hbz
    have HE2 := Lib.hid (e0.out.trans he2)
    have HX2 := Lib.hid he2
    have HD2 := Lib.hid hd2
    have HR2 := Lib.hid hr2
    have hlt1 : w.heap.size + 2 < w1.heap.size := Pack.lt_of_at hbz
    clear he2 hd2 hr2
    go_wp2_with (refine RowSt.wpList_put 149 _ _ rfl rfl rfl (w.heap.size + 2) (tabC sl nd t2) rfl rfl 149 _ hz2 (by kernel_rfl) rfl (by simp [Value.oneCell']) ?_; intro w8 hb8 hc8)
    refine bodyPost_ret (v := .tuple #[tabV sl nd t2, .int .i64 (moveC sl nd t o)]) (RowSt.results_cell_tmp (p := 4) (q := 5) rfl _ _ (w.heap.size + 2) 149 _ (0, 0) _ rfl hb8 Try.underlying149 rfl (by kernel_rfl)) rfl ?_
    have HEZ := HE2.out.chg hc8 fun i hi => by have hi : i = w.heap.size + 2 := hi; omega
    rw [HQ.out]
    refine ⟨t2, ?_, HEZ, fun W hW hk => HD2.out W hW fun i o9 h1 h2 h3 => ?_, ?_⟩
    · unfold rApplyC
      rw [if_neg HK1.out, if_neg HK2.out, if_neg HK3.out, if_pos HK.out]
    · exact hk i o9 (by omega) (hc8.at_ h2 (fun e => by have e : i = w.heap.size + 2 := e; omega)) h3
    · show RApplyR sl nd t o t2
      unfold RApplyR
      rw [if_neg HK1.out, if_neg HK2.out, if_neg HK3.out, if_pos HK.out]
      exact HR2.out
  · have hk1 : (o.kind == 1) = false := by simp [h1]
    have HK1 := Lib.hid h1
    have hk2 : (o.kind == 2) = false := by simp [h2]
    have HK2 := Lib.hid h2
    have hk3 : (o.kind == 3) = false := by simp [h3]
    have HK3 := Lib.hid h3
    have hk4 : (o.kind == 4) = false := by simp [h4]
    have HK4 := Lib.hid h4
    clear h1 h2 h3 h4
    have HC : Hid (rApplyC sl nd t o = 1 ∧ RApplyR sl nd t o t) := Lib.hid (by
      unfold rApplyC RApplyR
      rw [if_neg HK1.out, if_neg HK2.out, if_neg HK3.out, if_neg HK4.out, if_neg HK1.out, if_neg HK2.out, if_neg HK3.out, if_neg HK4.out]
      exact ⟨rfl, rfl⟩)
    go_wp2_with (refine RowSt.wpList_put 149 _ _ rfl rfl rfl (w.heap.size + 2) (tabC sl nd t) rfl rfl 149 _ hbz (by kernel_rfl) rfl (by simp [Value.oneCell']) ?_; intro w8 hb8 hc8)
    refine bodyPost_ret (v := .tuple #[tabV sl nd t, .int .i64 1]) (RowSt.results_cell_tmp (p := 4) (q := 5) rfl _ _ (w.heap.size + 2) 149 _ (0, 0) _ rfl hb8 Try.underlying149 rfl (by kernel_rfl)) rfl ?_
    exact HNO.out _ _ HC.out (e0.out.chg hc8 fun i hi => by have hi : i = w.heap.size + 2 := hi; omega)
end Go.Proofs.Ytfhgjopoohfhjaa.Tbl
