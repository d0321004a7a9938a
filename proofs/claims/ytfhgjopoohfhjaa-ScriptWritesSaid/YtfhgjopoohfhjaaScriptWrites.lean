/- ScriptWrites, walked: which steps have a line, and which one. -/
import Derived.Test.YtfhgjopoohfhjaaScriptReads
namespace Go.Proofs.Ytfhgjopoohfhjaa.ScriptW
open Go.RowKit Base Step Vec Script
open ScriptP (L nameI digitsI St parseP parseR write)
set_option maxRecDepth 100000 in
set_option maxHeartbeats 16000000 in
theorem writes_walk (s : St) (D : Option Addr) (n c : Nat) (w : World) (hd : Rd w .u8 D n (ints s.data)) (hr : s.name.length ≤ 300 → s.data.length ≤ 300 → Ok s) (hnl : s.name.length ≤ 9223372036854775807) :
    Calls Try.prog 8 #[stV s D n c] w fun e w' => e = .returned (.bool true) ∧ Ext w w' := by
  have hx1 := at_new w (.cells (cellsV s D n c) 43)
  have hE1 := Ext.new w (.cells (cellsV s D n c) 43)
  have hln := hd.room
  have hdn : s.data.length = n := by have := hd.len; simpa [ints] using this
  have c1 : (w.alloc (.cells (cellsV s D n c) 43)).cell? ⟨w.heap.size, 1, none⟩ = some (.string (S s.name)) := blk_cell (i := 1) hx1 (Ext.refl _) rfl
  have c2 : (w.alloc (.cells (cellsV s D n c) 43)).cell? ⟨w.heap.size, 2, none⟩ = some (.slice D n c) := blk_cell (i := 2) hx1 (Ext.refl _) rfl
  have HX1 := Lib.hid hx1
  have HE1 := Lib.hid hE1
  have HD := Lib.hid hd
  clear hx1 hE1 hd
  by_cases l1 : 300 < n
  · clear hr
    go_enter Try.func8, Try.ntmps8
    go_wp2_with fail
    refine (awake_calls _).mono ?_
    rintro e w9 ⟨rfl, he9⟩
    go_wp2_with fail
    go_ret
    exact ⟨rfl, HE1.out.trans he9⟩
  by_cases l2 : 300 < s.name.length
  · clear hr
    go_enter Try.func8, Try.ntmps8
    go_wp2_with fail
    refine (awake_calls _).mono ?_
    rintro e w9 ⟨rfl, he9⟩
    go_wp2_with fail
    go_ret
    exact ⟨rfl, HE1.out.trans he9⟩
  have hok := hr (by omega) (by omega)
  have hws := write_short hok
  clear hr
  go_enter Try.func8, Try.ntmps8
  go_wp2_with (refine wpList_load_rowG rfl 43 _ rfl w.heap.size rfl 43 (cellsV s D n c) (0, 0) _ HX1.out Try.underlying43 rfl (by kernel_rfl) ?_)
  refine (to_calls s D n c _).mono ?_
  rintro e w2 ⟨rfl, he2⟩
  have hE2 := HE1.out.trans he2
  have hX2 := he2.at_ HX1.out
  clear HX1 HE1 he2 c1 c2
  go_wp2_with fail
  refine (swrite_calls s D n c _ hok (HD.out.ext hE2)).mono ?_
  rintro e w3 ⟨rfl, he3⟩
  have HX3 := Lib.hid (he3.at_ hX2)
  have hE3 := hE2.trans he3
  clear hX2 hE2 he3
  go_wp2_with (refine wpList_load_rowG rfl 43 _ rfl w.heap.size rfl 43 (cellsV s D n c) (0, 0) _ HX3.out Try.underlying43 rfl (by kernel_rfl) ?_)
  refine (rwrite_calls s D n c _ hok (HD.out.ext hE3)).mono ?_
  rintro e w4 ⟨rfl, he4⟩
  have hX4 := he4.at_ HX3.out
  have hE4 := hE3.trans he4
  clear HX3 hE3 he4
  go_wp2_with fail
  refine (rparse_calls (S (write s)) _ (by simp [ByteArray.size]; omega)).mono ?_
  rintro e w5 ⟨he5, hp5⟩
  rw [← ScriptP.parse_eq, show (S (write s)).data.toList = write s from rfl] at hp5
  have HX5 := Lib.hid (he5.at_ hX4)
  have hE5 := hE4.trans he5
  clear hX4 hE4 he5
  have HLO : Hid (lineOf s = match parseP (write s) with | none => [] | some x => if same x s then write s else []) := Lib.hid rfl
  have hgl : w.heap.size < w5.heap.size := (Array.getElem?_eq_some_iff.1 HX5.out).1
  cases hpo : parseP (write s) with
  | none =>
    rw [hpo] at hp5
    obtain rfl := hp5
    have hlo : lineOf s = [] := by rw [HLO.out, hpo]
    rw [hlo]
    clear hlo HLO hpo
    go_wp2_with (refine RowSt.wpList_put 43 _ _ rfl rfl rfl w5.heap.size (cellsV (St.of 0) none 0 0) rfl rfl 43 _ (at_new w5 _) (by kernel_rfl) rfl (cells_one _ _ _ _) ?_; intro w6 hb6 hc6; have hE6 : Ext w w6 := (hE5.alloc _).chg hc6 fun i hi => by rw [hi]; exact hE5.size)
    refine (awake_calls _).mono ?_
    rintro e w9 ⟨rfl, he9⟩
    go_wp2_with fail
    go_ret
    exact ⟨rfl, hE6.trans he9⟩
  | some y =>
    rw [hpo] at hp5
    obtain ⟨D5, n5, c5, rfl, hd5, _⟩ := hp5
    go_wp2_with (first | (refine RowSt.wpList_put 43 _ _ rfl rfl rfl w5.heap.size (cellsV y D5 n5 c5) rfl rfl 43 _ (at_new w5 _) (by kernel_rfl) rfl (cells_one _ _ _ _) ?_; intro w6 hb6 hc6; have hE6 : Ext w w6 := (hE5.alloc _).chg hc6 fun i hi => (by rw [hi]; exact hE5.size); have HX6 := Lib.hid (hc6.at_ ((Ext.new w5 _).at_ HX5.out) (by omega)); have HB6 := Lib.hid hb6; have HC6 := Lib.hid hc6; clear hb6 hc6) | (refine wpList_load_rowG rfl 43 _ rfl w5.heap.size rfl 43 (cellsV y D5 n5 c5) (0, 0) _ HB6.out Try.underlying43 rfl (by kernel_rfl) ?_) | (refine wpList_load_rowG rfl 43 _ rfl w.heap.size rfl 43 (cellsV s D n c) (0, 0) _ HX6.out Try.underlying43 rfl (by kernel_rfl) ?_))
    have hd6 : Rd w6 .u8 D5 n5 (ints y.data) := (hd5.ext (Ext.new w5 _)).chg HC6.out fun ad e h0 h => by
      subst e
      have := hd5.lt h0
      have h : ad.block = w5.heap.size := h
      omega
    refine (rsame_calls y s D5 n5 c5 D n c _ hd6 (HD.out.ext hE6)).mono ?_
    rintro e w7 ⟨rfl, he7⟩
    have hE7 := hE6.trans he7
    have HX7 := Lib.hid (he7.at_ HX6.out)
    cases hsm : same y s with
    | false =>
      have hlo : lineOf s = [] := by rw [HLO.out, hpo]; simp [hsm]
      rw [hlo]
      clear hlo HLO hpo hsm
      go_wp2_with fail
      refine (awake_calls _).mono ?_
      rintro e w9 ⟨rfl, he9⟩
      go_wp2_with fail
      go_ret
      exact ⟨rfl, hE7.trans he9⟩
    | true =>
      have hlo : lineOf s = write s := by rw [HLO.out, hpo]; simp [hsm]
      rw [hlo]
      have HPO := Lib.hid hpo
      have HSM := Lib.hid hsm
      clear hlo HLO hpo hsm
      go_wp2_with fail
      refine (parse_calls (S (write s)) _ (by simp [ByteArray.size]; omega)).mono ?_
      rintro e w8 ⟨he8, hp8⟩
      rw [show (S (write s)).data.toList = write s from rfl, HPO.out] at hp8
      obtain ⟨D8, n8, c8, rfl, hd8⟩ := hp8
      have HX8 := Lib.hid (he8.at_ HX7.out)
      have hE8 := hE7.trans he8
      have hgl8 : w.heap.size < w8.heap.size := (Array.getElem?_eq_some_iff.1 HX8.out).1
      go_wp2_with (refine RowSt.wpList_put 46 _ _ rfl rfl rfl w8.heap.size (cellsV y D8 n8 c8) rfl rfl 46 _ (at_new w8 _) (by kernel_rfl) rfl (cells_one _ _ _ _) ?_; intro w9 hb9 hc9)
      have hE9 : Ext w w9 := (hE8.alloc _).chg hc9 fun i hi => by rw [hi]; exact hE8.size
      have hX9 := hc9.at_ ((Ext.new w8 _).at_ HX8.out) (by omega)
      have hd9 : Rd w9 .u8 D8 n8 (ints y.data) := (hd8.ext (Ext.new w8 _)).chg hc9 fun ad e h0 h => by
        subst e
        have := hd8.lt h0
        have h : ad.block = w8.heap.size := h
        omega
      have x0 : ∀ W', Ext w9 W' → W'.cell? ⟨w8.heap.size, 0, none⟩ = some (.int .i64 y.kind) := fun W' hW => blk_cell (i := 0) hb9 hW rfl
      have x1 : ∀ W', Ext w9 W' → W'.cell? ⟨w8.heap.size, 1, none⟩ = some (.string (S y.name)) := fun W' hW => blk_cell (i := 1) hb9 hW rfl
      have x2 : ∀ W', Ext w9 W' → W'.cell? ⟨w8.heap.size, 2, none⟩ = some (.slice D8 n8 c8) := fun W' hW => blk_cell (i := 2) hb9 hW rfl
      have x3 : ∀ W', Ext w9 W' → W'.cell? ⟨w8.heap.size, 3, none⟩ = some (.int .i64 y.node) := fun W' hW => blk_cell (i := 3) hb9 hW rfl
      have x4 : ∀ W', Ext w9 W' → W'.cell? ⟨w8.heap.size, 4, none⟩ = some (.int .i64 y.a) := fun W' hW => blk_cell (i := 4) hb9 hW rfl
      have x5 : ∀ W', Ext w9 W' → W'.cell? ⟨w8.heap.size, 5, none⟩ = some (.int .i64 y.b) := fun W' hW => blk_cell (i := 5) hb9 hW rfl
      have x6 : ∀ W', Ext w9 W' → W'.cell? ⟨w8.heap.size, 6, none⟩ = some (.int .u8 y.bits) := fun W' hW => blk_cell (i := 6) hb9 hW rfl
      have y0 : ∀ W', Ext w9 W' → W'.cell? ⟨w.heap.size, 0, none⟩ = some (.int .i64 s.kind) := fun W' hW => blk_cell (i := 0) hX9 hW rfl
      have y1 : ∀ W', Ext w9 W' → W'.cell? ⟨w.heap.size, 1, none⟩ = some (.string (S s.name)) := fun W' hW => blk_cell (i := 1) hX9 hW rfl
      have y2 : ∀ W', Ext w9 W' → W'.cell? ⟨w.heap.size, 2, none⟩ = some (.slice D n c) := fun W' hW => blk_cell (i := 2) hX9 hW rfl
      have y3 : ∀ W', Ext w9 W' → W'.cell? ⟨w.heap.size, 3, none⟩ = some (.int .i64 s.node) := fun W' hW => blk_cell (i := 3) hX9 hW rfl
      have y4 : ∀ W', Ext w9 W' → W'.cell? ⟨w.heap.size, 4, none⟩ = some (.int .i64 s.a) := fun W' hW => blk_cell (i := 4) hX9 hW rfl
      have y5 : ∀ W', Ext w9 W' → W'.cell? ⟨w.heap.size, 5, none⟩ = some (.int .i64 s.b) := fun W' hW => blk_cell (i := 5) hX9 hW rfl
      have y6 : ∀ W', Ext w9 W' → W'.cell? ⟨w.heap.size, 6, none⟩ = some (.int .u8 s.bits) := fun W' hW => blk_cell (i := 6) hX9 hW rfl
      have HE9 := Lib.hid hE9
      have HD9 := Lib.hid hd9
      have HDS := Lib.hid (HD.out.ext hE9)
      clear hX9 hb9 hc9 hd9 hE9 hE8 hE7 hE6 hE5 he8 he7 hd8 hd6 hd5
      refine Lex.wp_region_u [0, 1, 2, 3, 4, 5, 6, 7, 8, 9, 10, 11, 12, 13, 14, 15, 16] [] [(10, .const (stV s D n c)), (11, .const (.bool true)), (14, .const (.bool true))] (by kernel_rfl) (by kernel_rfl) (by repeat (first | exact Lex.st_nil | refine Lex.st_cons (by first | exact Lex.nums_st | exact Lex.const_st | exact Lex.such_st | exact Lex.row_st | exact Lex.rowE_st | exact Lex.litR_st | assumption) ?_)) ?_; simp only [Lex.pick, List.getElem?_cons_succ, List.getElem?_cons_zero, List.map_nil]
      repeat (first | (refine Lex.lexU_skip (by rfl) ?_; simp only [Act.put, List.setIfInBounds_toArray, List.set_cons_zero, List.set_cons_succ]) | (refine Lex.lexU_still (by rfl) (by rfl) (by first | exact Base.Ext.refl | exact Lex.Fill.refl) ?_; apply Exists.intro; refine ⟨fun W hW => ?_, ?_⟩; (have hE := Lex.ext_of_cls hW.1; have hE2 := Lex.ext_drew hE; clear hW; go_simp; try with_reducible rfl); simp only [Act.put, List.setIfInBounds_toArray, List.set_cons_zero, List.set_cons_succ]))
      refine Lex.lexU_loose (by rfl) (by rfl) (fun W hW => ?_) ?_
      · have hE := Lex.ext_drew (Lex.ext_of_cls hW.1)
        clear hW
        go_simp
        refine (to_calls s D n c W).mono ?_
        rintro e w10 ⟨rfl, he10⟩
        exact ⟨_, rfl, rfl, he10, trivial⟩
      rintro v rfl
      simp only [Act.put, List.setIfInBounds_toArray, List.set_cons_zero, List.set_cons_succ]
      repeat (first | (refine Lex.lexU_skip (by rfl) ?_; simp only [Act.put, List.setIfInBounds_toArray, List.set_cons_zero, List.set_cons_succ]) | (refine Lex.lexU_still (by rfl) (by rfl) (by first | exact Base.Ext.refl | exact Lex.Fill.refl) ?_; apply Exists.intro; refine ⟨fun W hW => ?_, ?_⟩; (have hE := Lex.ext_of_cls hW.1; have hE2 := Lex.ext_drew hE; clear hW; go_simp; try with_reducible rfl); simp only [Act.put, List.setIfInBounds_toArray, List.set_cons_zero, List.set_cons_succ]))
      refine Lex.lexU_loose (by rfl) (by rfl) (fun W hW => ?_) ?_
      · have hE := Lex.ext_drew (Lex.ext_of_cls hW.1)
        clear hW
        go_simp
        refine (same_calls y s D8 n8 c8 D n c W (HD9.out.ext hE) (HDS.out.ext hE)).mono ?_
        rintro e w10 ⟨rfl, he10⟩
        exact ⟨_, rfl, by rw [HSM.out]; rfl, he10, trivial⟩
      rintro v rfl
      simp only [Act.put, List.setIfInBounds_toArray, List.set_cons_zero, List.set_cons_succ]
      repeat (first | (refine Lex.lexU_skip (by rfl) ?_; simp only [Act.put, List.setIfInBounds_toArray, List.set_cons_zero, List.set_cons_succ]) | (refine Lex.lexU_still (by rfl) (by rfl) (by first | exact Base.Ext.refl | exact Lex.Fill.refl) ?_; apply Exists.intro; refine ⟨fun W hW => ?_, ?_⟩; (have hE := Lex.ext_of_cls hW.1; have hE2 := Lex.ext_drew hE; clear hW; go_simp; try with_reducible rfl); simp only [Act.put, List.setIfInBounds_toArray, List.set_cons_zero, List.set_cons_succ]))
      refine Lex.lexU_loose (by rfl) (by rfl) (fun W hW => ?_) ?_
      · have hE := Lex.ext_drew (Lex.ext_of_cls hW.1)
        clear hW
        go_simp
        refine (awake_calls W).mono ?_
        rintro e w10 ⟨rfl, he10⟩
        exact ⟨_, rfl, rfl, he10, trivial⟩
      rintro v rfl
      simp only [Act.put, List.setIfInBounds_toArray, List.set_cons_zero, List.set_cons_succ]
      repeat (first | (refine Lex.lexU_skip (by rfl) ?_; simp only [Act.put, List.setIfInBounds_toArray, List.set_cons_zero, List.set_cons_succ]) | (refine Lex.lexU_still (by rfl) (by rfl) (by first | exact Base.Ext.refl | exact Lex.Fill.refl) ?_; apply Exists.intro; refine ⟨fun W hW => ?_, ?_⟩; (have hE := Lex.ext_of_cls hW.1; have hE2 := Lex.ext_drew hE; clear hW; go_simp; try with_reducible rfl); simp only [Act.put, List.setIfInBounds_toArray, List.set_cons_zero, List.set_cons_succ]))
      refine Lex.lexU_nil (fun W hW => ?_)
      have HEW := Lib.hid (HE9.out.trans (Lex.ext_drew (Lex.ext_of_cls hW.1)))
      clear hW
      refine Lex.onlyN_intro ?_
      go_wp2_with fail
      go_ret
      exact ⟨rfl, HEW.out⟩
theorem writes_row (d : StepD) (w : World) (h : stepS.ok w d) : Calls Try.prog 8 #[.agg (stepS.cells d).toArray] w fun e w' => e = .returned (.bool true) ∧ Ext w w' := by
  obtain ⟨s, D, n, c, e, r, _, _, _, x0, x1, y0, y1, z0, z1, b0, b1, l⟩ := step_of h
  rw [e]
  exact writes_walk s D n c w r (fun h1 h2 => ⟨by omega, by omega, x0, x1, y0, y1, z0, z1, b0, b1⟩) l
end Go.Proofs.Ytfhgjopoohfhjaa.ScriptW
