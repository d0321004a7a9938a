/- Queues that are none, and one of no map: what they answer, walked. -/
import Derived.Test.YtipmkddcdnbihaaUrgV
namespace Go.Proofs.Ytipmkddcdnbihaa.Urg
open Go.RowKit Base Step MapIs Vec
open UrgP
theorem put_nil (j : Job) (w : World) : Calls Try.prog 15 #[.pointer none, jobA j] w fun e w' => e = .returned (.tuple #[]) ∧ Ext w w' := by
  have e0 := Lib.hid (Ext.new w (.cells #[.int .u32 j.o, .int .u16 j.s, .int .i64 j.g] 32))
  go_enter Try.func15, Try.ntmps15
  go_wp2_with fail
  refine bodyPost_ret (results_none rfl _ _ _) rfl ?_
  exact ⟨rfl, e0.out⟩
theorem drop_nil (o s : Int) (w : World) : Calls Try.prog 21 #[.pointer none, kV (o, s)] w fun e w' => e = .returned (.bool false) ∧ Ext w w' := by
  have e0 := Lib.hid (Ext.new w (.cells #[.int .u32 o, .int .u16 s] 30))
  go_enter Try.func21, Try.ntmps21
  go_wp2_with fail
  go_ret
  exact ⟨rfl, e0.out⟩
/-- A queue of no jobs, and of no map. -/
def ZeroQ (w : World) (g : Nat) : Prop := w.heap[g]? = some (.cells #[.slice none 0 0, .map none] 53 (0, 0))
theorem ZeroQ.ext {w w' : World} {g : Nat} (h : ZeroQ w g) (he : Ext w w') : ZeroQ w' g := he.at_ h
set_option maxRecDepth 100000 in
theorem put_zero (g : Nat) (j : Job) (w : World) (h : ZeroQ w g) : Calls Try.prog 15 #[.pointer (some ⟨g, 0, none⟩), jobA j] w fun e w' => e = .returned (.tuple #[]) ∧ Ext w w' := by
  have e0 := Lib.hid (Ext.new w (.cells #[.int .u32 j.o, .int .u16 j.s, .int .i64 j.g] 32))
  have c1 : (w.alloc (.cells #[.int .u32 j.o, .int .u16 j.s, .int .i64 j.g] 32)).cell? ⟨g, 1, none⟩ = some (.map none) := blk_cell (i := 1) h e0.out rfl
  clear h
  go_enter Try.func15, Try.ntmps15
  go_upto_region 1 with fail
  generalize w.alloc (.cells #[.int .u32 j.o, .int .u16 j.s, .int .i64 j.g] 32) = wa at *
  have hmn := run_eql_map_nil (P := Try.prog) (w := wa) 51 _ _ none Try.underlying51
  go_wp2_with fail
  refine bodyPost_ret (results_none rfl _ _ _) rfl ?_
  exact ⟨rfl, e0.out⟩
set_option maxRecDepth 100000 in
theorem drop_zero (g : Nat) (o s : Int) (w : World) (h : ZeroQ w g) (h1 : 0 ≤ o) (h2 : o < 4294967296) (h3 : 0 ≤ s) (h4 : s < 65536) : Calls Try.prog 21 #[.pointer (some ⟨g, 0, none⟩), kV (o, s)] w fun e w' => e = .returned (.bool false) ∧ Ext w w' := by
  obtain ⟨kl, hkl⟩ := key_of h1 h2 h3 h4
  have e0 := Ext.new w (.cells #[.int .u32 o, .int .u16 s] 30)
  have hb0 := at_new w (.cells #[.int .u32 o, .int .u16 s] 30)
  have E0 := Lib.hid e0
  have hz := h.ext e0
  go_enter Try.func21, Try.ntmps21
  go_upto_region 1 with fail
  generalize w.alloc (.cells #[.int .u32 o, .int .u16 s] 30) = wa at *
  have k0 : ∀ W, Ext wa.drew W → W.cell? ⟨w.heap.size, 0, none⟩ = some (.int .u32 o) := fun W hW => blk_cell (i := 0) hb0 (drew_ext hW) rfl
  have k1 : ∀ W, Ext wa.drew W → W.cell? ⟨w.heap.size, 1, none⟩ = some (.int .u16 s) := fun W hW => blk_cell (i := 1) hb0 (drew_ext hW) rfl
  have q1 : ∀ W, Ext wa.drew W → W.cell? ⟨g, 1, none⟩ = some (.map none) := fun W hW => blk_cell (i := 1) hz (drew_ext hW) rfl
  have hll : ∀ W : World, (Instr.lookup 51 (.map none) (.agg #[.int .u32 o, .int .u16 s]) true).run Try.prog W = .ok (.tuple #[.int .i64 0, .bool false]) W := fun W => Maps.look_nil true key_keyed Try.underlying51 (int_zero W) hkl
  clear hb0 hz e0 h hkl
  go_wp2_with fail
  refine Lex.wp_region_u [0, 1, 2, 3, 4, 5, 6, 7, 8, 9, 10] [] [] (by kernel_rfl) (by kernel_rfl) (by repeat (first | exact Lex.st_nil | refine Lex.st_cons (by first | exact Lex.nums_st | exact Lex.const_st | exact Lex.such_st | exact Lex.row_st | exact Lex.rowE_st | exact Lex.litR_st | assumption) ?_)) ?_; simp only [Lex.pick, List.getElem?_cons_succ, List.getElem?_cons_zero, List.map_nil]
  repeat (first | (refine Lex.lexU_skip (by rfl) ?_; simp only [Act.put, List.setIfInBounds_toArray, List.set_cons_zero, List.set_cons_succ]) | (refine Lex.lexU_still (by rfl) (by rfl) (by first | exact Base.Ext.refl | exact Lex.Fill.refl) ?_; apply Exists.intro; refine ⟨fun W hW => ?_, ?_⟩; (have hE := Lex.ext_of_cls hW.1; have hE2 := Lex.ext_drew hE; clear hW; go_simp; try with_reducible rfl); simp only [Act.put, List.setIfInBounds_toArray, List.set_cons_zero, List.set_cons_succ]))
  refine Lex.lexU_nil (fun W hW => ?_)
  have hE := Lib.hid (Lex.ext_drew hW.1)
  clear hW k0 k1 q1 hll
  refine Lex.onlyN_intro ?_
  go_wp2_with fail
  go_ret
  exact ⟨rfl, E0.out.trans hE.out⟩
set_option maxRecDepth 100000 in
theorem first_zero (g : Nat) (w : World) (h : ZeroQ w g) : Calls Try.prog 26 #[.pointer (some ⟨g, 0, none⟩)] w fun e w' => e = .returned (.tuple #[jobA ⟨0, 0, 0⟩, .bool false]) ∧ Ext w w' := by
  have hl : ∀ W, ZeroQ W g → Calls Try.prog 18 #[.pointer (some ⟨g, 0, none⟩)] W fun e w' => e = .returned (.int .i64 0) ∧ W = w' := fun W hW => by
    have c0 : W.cell? ⟨g, 0, none⟩ = some (.slice none 0 0) := blk_cell (i := 0) hW (Ext.refl _) rfl
    clear hW
    go_enter Try.func18, Try.ntmps18
    go_wp2_with fail
    go_ret
    exact ⟨rfl, rfl⟩
  have e1 := Ext.new w (.cells #[.int .u32 0, .int .u16 0, .int .i64 0] 32)
  have hb1 := at_new w (.cells #[.int .u32 0, .int .u16 0, .int .i64 0] 32)
  have E1 := Lib.hid e1
  have hz := Lib.hid (h.ext e1)
  have HL := Lib.hid hl
  clear e1 h hl
  go_enter Try.func26, Try.ntmps26
  go_upto_region 1 with fail
  generalize w.alloc (.cells #[.int .u32 0, .int .u16 0, .int .i64 0] 32) = wa at *
  go_wp2_with fail
  refine (HL.out _ hz.out).mono ?_
  rintro e w1 ⟨rfl, rfl⟩
  go_wp2_with (refine RowSt.wpList_put 32 _ _ rfl rfl rfl w.heap.size #[.int .u32 0, .int .u16 0, .int .i64 0] rfl rfl 32 _ hb1 (by kernel_rfl) rfl (by simp [Value.oneCell']) ?_; intro w8 hb8 hc8)
  refine bodyPost_ret (v := .tuple #[jobA ⟨0, 0, 0⟩, .bool false]) (RowSt.results_cell_tmp (p := 2) (q := 3) rfl _ _ w.heap.size 32 _ (0, 0) _ rfl hb8 Try.underlying32 rfl (by kernel_rfl)) rfl ?_
  exact ⟨rfl, E1.out.chg hc8 fun q h => by have h : q = w.heap.size := h; omega⟩
set_option maxRecDepth 100000 in
theorem pop_none (v : Value) (w : World) (hv : v = .pointer none ∨ ∃ g, v = .pointer (some ⟨g, 0, none⟩) ∧ ZeroQ w g) : Calls Try.prog 19 #[v] w fun e w' => e = .returned (.tuple #[jobA ⟨0, 0, 0⟩, .bool false]) ∧ Ext w w' := by
  have hfirst : ∀ W, Ext w W → Calls Try.prog 26 #[v] W fun e w' => e = .returned (.tuple #[jobA ⟨0, 0, 0⟩, .bool false]) ∧ Ext W w' := fun W hW => by
    rcases hv with rfl | ⟨g, rfl, hz⟩
    · exact first_nil W
    · exact first_zero g W (hz.ext hW)
  have HF := Lib.hid hfirst
  clear hfirst hv
  have e1 := Ext.new w (.cells #[.int .u32 0, .int .u16 0, .int .i64 0] 32)
  have hb1 := at_new w (.cells #[.int .u32 0, .int .u16 0, .int .i64 0] 32)
  have E1 := Lib.hid e1
  clear e1
  go_enter Try.func19, Try.ntmps19
  go_upto_region 1 with fail
  generalize w.alloc (.cells #[.int .u32 0, .int .u16 0, .int .i64 0] 32) = wa at *
  have B1 := Lib.hid hb1
  clear hb1
  go_wp2_with fail
  refine (HF.out wa E1.out).mono ?_
  rintro e w2 ⟨rfl, he2⟩
  have E2 := Lib.hid (E1.out.trans he2)
  have B2 := Lib.hid (he2.at_ B1.out)
  have e3 := Ext.new w2 (.cells #[.int .u32 0, .int .u16 0, .int .i64 0] 32)
  clear he2
  go_wp2_with (first
      | (refine RowSt.wpList_put 32 _ _ rfl rfl rfl w2.heap.size #[.int .u32 0, .int .u16 0, .int .i64 0] rfl rfl 32 _ (at_new _ _) (by kernel_rfl) rfl (by simp [Value.oneCell']) ?_; intro w3 hb3 hc3; have E3 := Lib.hid (e3.chg hc3 (fun q k => by have k : q = w2.heap.size := k; omega)); have c0 := blk_cell (i := 0) hb3 (Ext.refl _) rfl; have c1 := blk_cell (i := 1) hb3 (Ext.refl _) rfl; have c2 := blk_cell (i := 2) hb3 (Ext.refl _) rfl; have hb4 := E3.out.at_ B2.out; clear hb3 hc3)
      | (refine RowSt.wpList_put 32 _ _ rfl rfl rfl w.heap.size #[.int .u32 0, .int .u16 0, .int .i64 0] rfl rfl 32 _ hb4 (by kernel_rfl) rfl (by simp [Value.oneCell']) ?_; intro w8 hb8 hc8))
  refine bodyPost_ret (v := .tuple #[jobA ⟨0, 0, 0⟩, .bool false]) (RowSt.results_cell_tmp (p := 2) (q := 3) rfl _ _ w.heap.size 32 _ (0, 0) _ rfl hb8 Try.underlying32 rfl (by kernel_rfl)) rfl ?_
  exact ⟨rfl, (E2.out.trans E3.out).chg hc8 fun q h => by have h : q = w.heap.size := h; omega⟩
end Go.Proofs.Ytipmkddcdnbihaa.Urg
