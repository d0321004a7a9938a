/- ScriptReads, walked: the step of every line, and how it is written. -/
import Derived.Test.YtfhgjopoohfhjaaScriptH
import Derived.Test.YtfhgjopoohfhjaaScriptT
import Derived.Test.YtfhgjopoohfhjaaScriptU
import Derived.Test.YtfhgjopoohfhjaaFill
import Derived.Test.YtfhgjopoohfhjaaScriptNames
namespace Go.Proofs.Ytfhgjopoohfhjaa.ScriptW
open Go.RowKit Base Step Vec Script
open ScriptP (L nameI digitsI St parseP parseR write)
set_option maxRecDepth 100000 in
theorem go_ok : ∀ (cs : L) (s : St) (r : L) (mo : Bool) (s' : St), ScriptP.go cs s r mo = some s' → Ok s → r.length ≤ 1000 → Ok s'
  | [], s, r, mo, s', h, hs, hr => by
    unfold ScriptP.go at h
    split at h
    · cases h
    · cases h; exact hs
  | c :: cs, s, r, mo, s', h, hs, hr => by
    unfold ScriptP.go at h
    split at h
    · cases h
    split at h
    · cases h
      exact ⟨hs.name, hr, hs.node0, hs.node1, hs.a0, hs.a1, hs.b0, hs.b1, hs.bits0, hs.bits1⟩
    split at h
    · cases h
    have hl := cut_len r
    refine go_ok cs _ _ _ s' h ?_ (by omega)
    have hm : (ScriptP.numP (ScriptP.cut r).1).getD 0 ≤ 1073741824 := by
      cases hn : ScriptP.numP (ScriptP.cut r).1 with
      | none => simp
      | some x => simpa using num_most hn
    obtain ⟨n1, n2, n3, n4, n5, n6, n7, n8, n9, n10⟩ := hs
    unfold ScriptP.wordV
    repeat' split
    all_goals exact ⟨by first | assumption | (show (ScriptP.cut r).1.length ≤ 1000; omega), by assumption, by first | assumption | (show _ ≤ ((_ : Nat) : Int); omega), by first | assumption | (show ((_ : Nat) : Int) ≤ _; omega), by first | assumption | (show _ ≤ ((_ : Nat) : Int); omega), by first | assumption | (show ((_ : Nat) : Int) ≤ _; omega), by first | assumption | (show _ ≤ ((_ : Nat) : Int); omega), by first | assumption | (show ((_ : Nat) : Int) ≤ _; omega), by first | assumption | (show _ ≤ ((_ : Nat) : Int); omega), by first | assumption | (show ((_ : Nat) : Int) < _; omega)⟩
theorem parse_ok {l : L} {s : St} (h : parseP l = some s) (hl : l.length ≤ 1000) : Ok s := by
  unfold parseP at h
  split at h
  · cases h
  have hc := cut_len l
  refine go_ok _ _ _ _ _ h ?_ (by omega)
  exact ⟨by simp [St.of], by simp [St.of], by simp [St.of], by simp [St.of], by simp [St.of], by simp [St.of], by simp [St.of], by simp [St.of], by simp [St.of], by simp [St.of]⟩
theorem same_self (s : St) : same s s = true := by simp [same]
theorem lineOf_parse {l : L} {s : St} (h : parseP l = some s) : lineOf s = l := by
  have hw := ScriptP.parse_write h
  unfold lineOf
  rw [hw, h]
  simp [same_self]
set_option maxRecDepth 100000 in
set_option maxHeartbeats 16000000 in
theorem reads_walk (t : ByteArray) (w : World) : Calls Try.prog 7 #[.string t] w fun e w' => e = .returned (.bool true) ∧ Ext w w' := by
  by_cases hlong : 600 < t.size
  · go_enter Try.func7, Try.ntmps7
    go_wp2_with fail
    refine (awake_calls _).mono ?_
    rintro e w9 ⟨rfl, he9⟩
    go_wp2_with fail
    go_ret
    exact ⟨rfl, he9⟩
  · obtain ⟨l, hl⟩ : ∃ l, t.data.toList = l := ⟨_, rfl⟩
    have hls : t.data.toList.length = t.size := by simp
    have hll : l.length ≤ 600 := by rw [← hl, hls]; omega
    clear hls
    have HP := Lib.hid fun W => parse_calls t W (by omega)
    have HR := Lib.hid fun W => rparse_calls t W (by omega)
    rw [← ScriptP.parse_eq] at HR
    rw [hl] at HP HR
    have htS : t = S l := by rw [← hl]
    have HT := Lib.hid htS
    have HL := Lib.hid hll
    clear hl htS
    have hlong' : t.size ≤ 600 := by omega
    go_enter Try.func7, Try.ntmps7
    go_wp2_with fail
    refine (HP.out _).mono ?_
    rintro e w1 ⟨he1, hp1⟩
    cases hpo : parseP l with
    | none =>
      rw [hpo] at hp1 HR
      obtain rfl := hp1
      go_wp2_with (refine RowSt.wpList_put 46 _ _ rfl rfl rfl w1.heap.size (cellsV (St.of 0) none 0 0) rfl rfl 46 _ (at_new w1 _) (by kernel_rfl) rfl (cells_one _ _ _ _) ?_; intro w2 hb2 hc2; have hE2 : Ext w w2 := (he1.alloc _).chg hc2 fun i hi => by rw [hi]; exact he1.size)
      refine (HR.out _).mono ?_
      rintro e w3 ⟨he3, hp3⟩
      obtain rfl := hp3
      have hb3 := he3.at_ hb2
      have hE3 := hE2.trans he3
      go_wp2_with (refine RowSt.wpList_put 43 _ _ rfl rfl rfl w3.heap.size (cellsV (St.of 0) none 0 0) rfl rfl 43 _ (at_new w3 _) (by kernel_rfl) rfl (cells_one _ _ _ _) ?_; intro w4 hb4 hc4)
      have hX4 := hc4.at_ ((Ext.new w3 _).at_ hb3) (by have := (Array.getElem?_eq_some_iff.1 hb3).1; omega)
      have hE4 : Ext w w4 := (hE3.alloc _).chg hc4 fun i hi => by rw [hi]; exact hE3.size
      have x0 : ∀ W', Ext w4 W' → W'.cell? ⟨w1.heap.size, 0, none⟩ = some (.int .i64 0) := fun W' hW => blk_cell (i := 0) hX4 hW rfl
      have x1 : ∀ W', Ext w4 W' → W'.cell? ⟨w1.heap.size, 1, none⟩ = some (.string { data := #[] }) := fun W' hW => blk_cell (i := 1) hX4 hW rfl
      have x2 : ∀ W', Ext w4 W' → W'.cell? ⟨w1.heap.size, 2, none⟩ = some (.slice none 0 0) := fun W' hW => blk_cell (i := 2) hX4 hW rfl
      have x3 : ∀ W', Ext w4 W' → W'.cell? ⟨w1.heap.size, 3, none⟩ = some (.int .i64 0) := fun W' hW => blk_cell (i := 3) hX4 hW rfl
      have x4 : ∀ W', Ext w4 W' → W'.cell? ⟨w1.heap.size, 4, none⟩ = some (.int .i64 0) := fun W' hW => blk_cell (i := 4) hX4 hW rfl
      have x5 : ∀ W', Ext w4 W' → W'.cell? ⟨w1.heap.size, 5, none⟩ = some (.int .i64 0) := fun W' hW => blk_cell (i := 5) hX4 hW rfl
      have x6 : ∀ W', Ext w4 W' → W'.cell? ⟨w1.heap.size, 6, none⟩ = some (.int .u8 0) := fun W' hW => blk_cell (i := 6) hX4 hW rfl
      have y0 : ∀ W', Ext w4 W' → W'.cell? ⟨w3.heap.size, 0, none⟩ = some (.int .i64 0) := fun W' hW => blk_cell (i := 0) hb4 hW rfl
      have y1 : ∀ W', Ext w4 W' → W'.cell? ⟨w3.heap.size, 1, none⟩ = some (.string { data := #[] }) := fun W' hW => blk_cell (i := 1) hb4 hW rfl
      have y2 : ∀ W', Ext w4 W' → W'.cell? ⟨w3.heap.size, 2, none⟩ = some (.slice none 0 0) := fun W' hW => blk_cell (i := 2) hb4 hW rfl
      have y3 : ∀ W', Ext w4 W' → W'.cell? ⟨w3.heap.size, 3, none⟩ = some (.int .i64 0) := fun W' hW => blk_cell (i := 3) hb4 hW rfl
      have y4 : ∀ W', Ext w4 W' → W'.cell? ⟨w3.heap.size, 4, none⟩ = some (.int .i64 0) := fun W' hW => blk_cell (i := 4) hb4 hW rfl
      have y5 : ∀ W', Ext w4 W' → W'.cell? ⟨w3.heap.size, 5, none⟩ = some (.int .i64 0) := fun W' hW => blk_cell (i := 5) hb4 hW rfl
      have y6 : ∀ W', Ext w4 W' → W'.cell? ⟨w3.heap.size, 6, none⟩ = some (.int .u8 0) := fun W' hW => blk_cell (i := 6) hb4 hW rfl
      have HX4 := Lib.hid hX4
      have HY4 := Lib.hid hb4
      have HE4 := Lib.hid hE4
      clear hX4 hb4 hE4 hc4 hb3 hE3 hb2 hE2 hc2 he1 he3
      refine Lex.wp_region_u [0, 1, 2, 3, 4, 5, 6, 7, 8, 9, 10, 11, 12, 13, 14, 15, 16, 17, 18] [] [(2, .const (stV (St.of 0) none 0 0)), (3, .const (.bool true))] (by kernel_rfl) (by kernel_rfl) (by repeat (first | exact Lex.st_nil | refine Lex.st_cons (by first | exact Lex.nums_st | exact Lex.const_st | exact Lex.such_st | exact Lex.row_st | exact Lex.rowE_st | exact Lex.litR_st | assumption) ?_)) ?_; simp only [Lex.pick, List.getElem?_cons_succ, List.getElem?_cons_zero, List.map_nil]
      repeat (first | (refine Lex.lexU_skip (by rfl) ?_; simp only [Act.put, List.setIfInBounds_toArray, List.set_cons_zero, List.set_cons_succ]) | (refine Lex.lexU_still (by rfl) (by rfl) (by first | exact Base.Ext.refl | exact Lex.Fill.refl) ?_; apply Exists.intro; refine ⟨fun W hW => ?_, ?_⟩; (have hE := Lex.ext_of_cls hW.1; have hE2 := Lex.ext_drew hE; clear hW; go_simp; try with_reducible rfl); simp only [Act.put, List.setIfInBounds_toArray, List.set_cons_zero, List.set_cons_succ]))
      refine Lex.lexU_loose (by rfl) (by rfl) (fun W hW => ?_) ?_
      · have hE := Lex.ext_drew (Lex.ext_of_cls hW.1)
        clear hW
        go_simp
        refine (to_calls (St.of 0) none 0 0 W).mono ?_
        rintro e w9 ⟨rfl, he9⟩
        exact ⟨_, rfl, rfl, he9, trivial⟩
      rintro v rfl
      simp only [Act.put, List.setIfInBounds_toArray, List.set_cons_zero, List.set_cons_succ]
      repeat (first | (refine Lex.lexU_skip (by rfl) ?_; simp only [Act.put, List.setIfInBounds_toArray, List.set_cons_zero, List.set_cons_succ]) | (refine Lex.lexU_still (by rfl) (by rfl) (by first | exact Base.Ext.refl | exact Lex.Fill.refl) ?_; apply Exists.intro; refine ⟨fun W hW => ?_, ?_⟩; (have hE := Lex.ext_of_cls hW.1; have hE2 := Lex.ext_drew hE; clear hW; go_simp; try with_reducible rfl); simp only [Act.put, List.setIfInBounds_toArray, List.set_cons_zero, List.set_cons_succ]))
      refine Lex.lexU_loose (by rfl) (by rfl) (fun W hW => ?_) ?_
      · have hE := Lex.ext_drew (Lex.ext_of_cls hW.1)
        clear hW
        go_simp
        refine (same_calls (St.of 0) (St.of 0) none 0 0 none 0 0 W (rd_nil _ _ _) (rd_nil _ _ _)).mono ?_
        rintro e w9 ⟨rfl, he9⟩
        exact ⟨_, rfl, by rw [same_self]; rfl, he9, trivial⟩
      rintro v rfl
      simp only [Act.put, List.setIfInBounds_toArray, List.set_cons_zero, List.set_cons_succ]
      repeat (first | (refine Lex.lexU_skip (by rfl) ?_; simp only [Act.put, List.setIfInBounds_toArray, List.set_cons_zero, List.set_cons_succ]) | (refine Lex.lexU_still (by rfl) (by rfl) (by first | exact Base.Ext.refl | exact Lex.Fill.refl) ?_; apply Exists.intro; refine ⟨fun W hW => ?_, ?_⟩; (have hE := Lex.ext_of_cls hW.1; have hE2 := Lex.ext_drew hE; clear hW; go_simp; try with_reducible rfl); simp only [Act.put, List.setIfInBounds_toArray, List.set_cons_zero, List.set_cons_succ]))
      refine Lex.lexU_nil (fun W hW => ?_)
      have hEW := Lex.ext_drew (Lex.ext_of_cls hW.1)
      have HEW := Lib.hid (HE4.out.trans hEW)
      clear hW x0 x1 x2 x3 x4 x5 x6 y0 y1 y2 y3 y4 y5 y6
      refine Lex.onlyN_intro ?_
      go_wp2_with fail
      refine (awake_calls _).mono ?_
      rintro e w9 ⟨rfl, he9⟩
      go_wp2_with fail
      go_ret
      exact ⟨rfl, HEW.out.trans he9⟩
    | some s =>
      have hok := parse_ok hpo (by omega)
      have hlo := lineOf_parse hpo
      have hwo := ScriptP.parse_write hpo
      rw [hpo] at hp1 HR
      obtain ⟨D1, n1, c1, rfl, hd1⟩ := hp1
      go_wp2_with (refine RowSt.wpList_put 46 _ _ rfl rfl rfl w1.heap.size (cellsV s D1 n1 c1) rfl rfl 46 _ (at_new w1 _) (by kernel_rfl) rfl (cells_one _ _ _ _) ?_; intro w2 hb2 hc2; have hE2 : Ext w w2 := (he1.alloc _).chg hc2 fun i hi => by rw [hi]; exact he1.size)
      have hd2 : Rd w2 .u8 D1 n1 (ints s.data) := (hd1.ext (Ext.new w1 _)).chg hc2 fun ad e h0 h => by
        subst e
        have := hd1.lt h0
        have h : ad.block = w1.heap.size := h
        omega
      refine (HR.out _).mono ?_
      rintro e w3 ⟨he3, hp3⟩
      obtain ⟨D2, n2, c2, rfl, hd3, _⟩ := hp3
      have hb3 := he3.at_ hb2
      have hE3 := hE2.trans he3
      have hd13 := hd2.ext he3
      go_wp2_with (refine RowSt.wpList_put 43 _ _ rfl rfl rfl w3.heap.size (cellsV s D2 n2 c2) rfl rfl 43 _ (at_new w3 _) (by kernel_rfl) rfl (cells_one _ _ _ _) ?_; intro w4 hb4 hc4)
      have hd14 : Rd w4 .u8 D1 n1 (ints s.data) := (hd13.ext (Ext.new w3 _)).chg hc4 fun ad e h0 h => by
        subst e
        have := hd13.lt h0
        have h : ad.block = w3.heap.size := h
        omega
      have hd24 : Rd w4 .u8 D2 n2 (ints s.data) := (hd3.ext (Ext.new w3 _)).chg hc4 fun ad e h0 h => by
        subst e
        have := hd3.lt h0
        have h : ad.block = w3.heap.size := h
        omega
      have HD1 := Lib.hid hd14
      have HD2 := Lib.hid hd24
      clear hd1 hd2 hd13 hd3 hd14 hd24
      have hX4 := hc4.at_ ((Ext.new w3 _).at_ hb3) (by have := (Array.getElem?_eq_some_iff.1 hb3).1; omega)
      have hE4 : Ext w w4 := (hE3.alloc _).chg hc4 fun i hi => by rw [hi]; exact hE3.size
      have x0 : ∀ W', Ext w4 W' → W'.cell? ⟨w1.heap.size, 0, none⟩ = some (.int .i64 s.kind) := fun W' hW => blk_cell (i := 0) hX4 hW rfl
      have x1 : ∀ W', Ext w4 W' → W'.cell? ⟨w1.heap.size, 1, none⟩ = some (.string (S s.name)) := fun W' hW => blk_cell (i := 1) hX4 hW rfl
      have x2 : ∀ W', Ext w4 W' → W'.cell? ⟨w1.heap.size, 2, none⟩ = some (.slice D1 n1 c1) := fun W' hW => blk_cell (i := 2) hX4 hW rfl
      have x3 : ∀ W', Ext w4 W' → W'.cell? ⟨w1.heap.size, 3, none⟩ = some (.int .i64 s.node) := fun W' hW => blk_cell (i := 3) hX4 hW rfl
      have x4 : ∀ W', Ext w4 W' → W'.cell? ⟨w1.heap.size, 4, none⟩ = some (.int .i64 s.a) := fun W' hW => blk_cell (i := 4) hX4 hW rfl
      have x5 : ∀ W', Ext w4 W' → W'.cell? ⟨w1.heap.size, 5, none⟩ = some (.int .i64 s.b) := fun W' hW => blk_cell (i := 5) hX4 hW rfl
      have x6 : ∀ W', Ext w4 W' → W'.cell? ⟨w1.heap.size, 6, none⟩ = some (.int .u8 s.bits) := fun W' hW => blk_cell (i := 6) hX4 hW rfl
      have y0 : ∀ W', Ext w4 W' → W'.cell? ⟨w3.heap.size, 0, none⟩ = some (.int .i64 s.kind) := fun W' hW => blk_cell (i := 0) hb4 hW rfl
      have y1 : ∀ W', Ext w4 W' → W'.cell? ⟨w3.heap.size, 1, none⟩ = some (.string (S s.name)) := fun W' hW => blk_cell (i := 1) hb4 hW rfl
      have y2 : ∀ W', Ext w4 W' → W'.cell? ⟨w3.heap.size, 2, none⟩ = some (.slice D2 n2 c2) := fun W' hW => blk_cell (i := 2) hb4 hW rfl
      have y3 : ∀ W', Ext w4 W' → W'.cell? ⟨w3.heap.size, 3, none⟩ = some (.int .i64 s.node) := fun W' hW => blk_cell (i := 3) hb4 hW rfl
      have y4 : ∀ W', Ext w4 W' → W'.cell? ⟨w3.heap.size, 4, none⟩ = some (.int .i64 s.a) := fun W' hW => blk_cell (i := 4) hb4 hW rfl
      have y5 : ∀ W', Ext w4 W' → W'.cell? ⟨w3.heap.size, 5, none⟩ = some (.int .i64 s.b) := fun W' hW => blk_cell (i := 5) hb4 hW rfl
      have y6 : ∀ W', Ext w4 W' → W'.cell? ⟨w3.heap.size, 6, none⟩ = some (.int .u8 s.bits) := fun W' hW => blk_cell (i := 6) hb4 hW rfl
      have HX4 := Lib.hid hX4
      have HY4 := Lib.hid hb4
      have HE4 := Lib.hid hE4
      clear hX4 hb4 hE4 hc4 hb3 hE3 hb2 hE2 hc2 he1 he3
      refine Lex.wp_region_u [0, 1, 2, 3, 4, 5, 6, 7, 8, 9, 10, 11, 12, 13, 14, 15, 16, 17, 18] [] [(2, .const (stV s D2 n2 c2)), (3, .const (.bool true))] (by kernel_rfl) (by kernel_rfl) (by repeat (first | exact Lex.st_nil | refine Lex.st_cons (by first | exact Lex.nums_st | exact Lex.const_st | exact Lex.such_st | exact Lex.row_st | exact Lex.rowE_st | exact Lex.litR_st | assumption) ?_)) ?_; simp only [Lex.pick, List.getElem?_cons_succ, List.getElem?_cons_zero, List.map_nil]
      repeat (first | (refine Lex.lexU_skip (by rfl) ?_; simp only [Act.put, List.setIfInBounds_toArray, List.set_cons_zero, List.set_cons_succ]) | (refine Lex.lexU_still (by rfl) (by rfl) (by first | exact Base.Ext.refl | exact Lex.Fill.refl) ?_; apply Exists.intro; refine ⟨fun W hW => ?_, ?_⟩; (have hE := Lex.ext_of_cls hW.1; have hE2 := Lex.ext_drew hE; clear hW; go_simp; try with_reducible rfl); simp only [Act.put, List.setIfInBounds_toArray, List.set_cons_zero, List.set_cons_succ]))
      refine Lex.lexU_loose (by rfl) (by rfl) (fun W hW => ?_) ?_
      · have hE := Lex.ext_drew (Lex.ext_of_cls hW.1)
        clear hW
        go_simp
        refine (to_calls s D2 n2 c2 W).mono ?_
        rintro e w9 ⟨rfl, he9⟩
        exact ⟨_, rfl, rfl, he9, trivial⟩
      rintro v rfl
      simp only [Act.put, List.setIfInBounds_toArray, List.set_cons_zero, List.set_cons_succ]
      repeat (first | (refine Lex.lexU_skip (by rfl) ?_; simp only [Act.put, List.setIfInBounds_toArray, List.set_cons_zero, List.set_cons_succ]) | (refine Lex.lexU_still (by rfl) (by rfl) (by first | exact Base.Ext.refl | exact Lex.Fill.refl) ?_; apply Exists.intro; refine ⟨fun W hW => ?_, ?_⟩; (have hE := Lex.ext_of_cls hW.1; have hE2 := Lex.ext_drew hE; clear hW; go_simp; try with_reducible rfl); simp only [Act.put, List.setIfInBounds_toArray, List.set_cons_zero, List.set_cons_succ]))
      refine Lex.lexU_loose (by rfl) (by rfl) (fun W hW => ?_) ?_
      · have hE := Lex.ext_drew (Lex.ext_of_cls hW.1)
        clear hW
        go_simp
        refine (same_calls s s D1 n1 c1 D2 n2 c2 W (HD1.out.ext hE) (HD2.out.ext hE)).mono ?_
        rintro e w9 ⟨rfl, he9⟩
        exact ⟨_, rfl, by rw [same_self]; rfl, he9, trivial⟩
      rintro v rfl
      simp only [Act.put, List.setIfInBounds_toArray, List.set_cons_zero, List.set_cons_succ]
      repeat (first | (refine Lex.lexU_skip (by rfl) ?_; simp only [Act.put, List.setIfInBounds_toArray, List.set_cons_zero, List.set_cons_succ]) | (refine Lex.lexU_still (by rfl) (by rfl) (by first | exact Base.Ext.refl | exact Lex.Fill.refl) ?_; apply Exists.intro; refine ⟨fun W hW => ?_, ?_⟩; (have hE := Lex.ext_of_cls hW.1; have hE2 := Lex.ext_drew hE; clear hW; go_simp; try with_reducible rfl); simp only [Act.put, List.setIfInBounds_toArray, List.set_cons_zero, List.set_cons_succ]))
      refine Lex.lexU_nil (fun W hW => ?_)
      have hEW := Lex.ext_drew (Lex.ext_of_cls hW.1)
      have HEW := Lib.hid (HE4.out.trans hEW)
      have HXW := Lib.hid (hEW.at_ HX4.out)
      have HYW := Lib.hid (hEW.at_ HY4.out)
      have HD1W := Lib.hid (HD1.out.ext hEW)
      have HD2W := Lib.hid (HD2.out.ext hEW)
      clear hW hEW x0 x1 x2 x3 x4 x5 x6 y0 y1 y2 y3 y4 y5 y6
      refine Lex.onlyN_intro ?_
      go_wp2_with (refine wpList_load_rowG rfl 46 _ rfl w1.heap.size rfl 46 (cellsV s D1 n1 c1) (0, 0) _ HXW.out Try.underlying46 rfl (by kernel_rfl) ?_)
      refine (swrite_calls s D1 n1 c1 _ hok HD1W.out).mono ?_
      rintro e w8 ⟨rfl, he8⟩
      rw [hlo, ← HT.out]
      have HYW8 := Lib.hid (he8.at_ HYW.out)
      go_wp2_with (refine wpList_load_rowG rfl 43 _ rfl w3.heap.size rfl 43 (cellsV s D2 n2 c2) (0, 0) _ HYW8.out Try.underlying43 rfl (by kernel_rfl) ?_)
      refine (rwrite_calls s D2 n2 c2 _ hok (HD2W.out.ext he8)).mono ?_
      rintro e w9 ⟨rfl, he9⟩
      rw [hwo, ← HT.out]
      go_wp2_with fail
      refine (awake_calls _).mono ?_
      rintro e w10 ⟨rfl, he10⟩
      go_wp2_with fail
      go_ret
      exact ⟨rfl, ((HEW.out.trans he8).trans he9).trans he10⟩
theorem reads_row (t : ByteArray) (w : World) (_ : t.size ≤ 140737488351232) : Calls Try.prog 7 #[.string t] w fun e w' => e = .returned (.bool true) ∧ Ext w w' := reads_walk t w
end Go.Proofs.Ytfhgjopoohfhjaa.ScriptW
