/- The law compares a queue with the document's list: alike, it says yes. -/
import Derived.Test.YtipmkddcdnbihaaUrgU
import Derived.Test.YtipmkddcdnbihaaUrgentOrders
namespace Go.Proofs.Ytipmkddcdnbihaa.Urg
open Go.RowKit Base Step MapIs Vec
open UrgP UrgW
theorem field_key (j : Job) (W : World) : (Instr.field 32 (jobA j) 0).run Try.prog W = .ok (.agg #[.int .u32 j.o, .int .u16 j.s]) W := by kernel_rfl
set_option maxRecDepth 100000 in
set_option maxHeartbeats 8000000 in
theorem same_calls (S : Nat → Prop) (gq gm : Nat) (l : List Job) (A : Option Addr) (n c : Nat) (r : List Job) (w : World) (h : QueAt w S gq gm l) (hh : UrgP.Heap l) (hr : RowJ w A n c r) (hp : l.Perm r) (hs : Sorted r) (hlen : l.length ≤ 1000) :
    Calls Try.prog 24 #[.pointer (some ⟨gq, 0, none⟩), .slice A n c] w fun e w' => e = .returned (.bool true) ∧ Ext w w' := by
  have hln : l.length = n := by rw [hp.length_eq, hr.len]
  have hn1000 : n ≤ 1000 := by omega
  have HQ := Lib.hid h
  have HH := Lib.hid hh
  have HR := Lib.hid hr
  have HP := Lib.hid hp
  have HS := Lib.hid hs
  have HLN := Lib.hid hln
  clear h hh hr hp hs hln hlen
  go_enter Try.func24, Try.ntmps24
  go_wp2_with fail
  refine (all_calls S gq gm l w HQ.out (by rw [HLN.out]; omega)).mono ?_
  rintro e w1 ⟨he1, A1, c1, m, rfl, hpm, hsm, hown⟩
  obtain rfl : m = r := sorted_eq hsm HS.out (hpm.trans HP.out)
  rw [HLN.out] at hown ⊢
  have HO := Lib.hid hown
  have HE1 := Lib.hid he1
  clear he1 hpm hsm hown
  go_wp2_with fail
  refine (len_calls S gq gm l w1 (HQ.out.ext HE1.out)).mono ?_
  rintro e w2 ⟨rfl, rfl⟩
  rw [HLN.out]
  go_wp2_with fail
  go_loopg [6] n (fun left i wr => ∃ k : Nat, i = .int .i64 k ∧ k + left = n ∧ Hid (Ext w1 wr))
  case atStart => exact ⟨0, rfl, by omega, Lib.hid (Ext.refl _)⟩
  case round =>
    obtain ⟨k, rfl, hk, HK⟩ := hrel
    by_cases hlt : k < n
    · have hkr : k < m.length := by rw [HR.out.len]; exact hlt
      obtain ⟨hok, ad, hA, c0, c1, c2⟩ := HR.out.at_ k _ (at_get hkr)
      subst hA
      obtain ⟨g, hA1, p0, p1, p2⟩ := row_cell HO.out (at_get hkr)
      subst hA1
      have hjm : at_ m k ∈ l := HP.out.mem_iff.2 (at_mem hkr)
      obtain ⟨j, hj⟩ : ∃ j, j = at_ m k := ⟨_, rfl⟩
      rw [← hj] at c0 c1 c2 p0 p1 p2 hok hjm
      have HJM := Lib.hid hjm
      have HOK := Lib.hid hok
      clear hj hkr hjm hok
      have hEk := HE1.out.trans HK.out
      replace c0 := hEk.cell_ c0
      replace c1 := hEk.cell_ c1
      replace c2 := hEk.cell_ c2
      have HEk := Lib.hid hEk
      clear hEk
      go_wp2_with fail
      refine (to_calls j _).mono ?_
      rintro e w4 ⟨rfl, he4⟩
      have HE4 := Lib.hid (HEk.out.trans he4)
      have HX4 := Lib.hid (HK.out.trans he4)
      replace c0 := he4.cell_ c0
      replace c1 := he4.cell_ c1
      replace c2 := he4.cell_ c2
      clear he4
      have hfk := field_key j w4
      go_wp2_with fail
      clear hfk
      refine (get_calls S gq gm l j.o j.s w4 (HQ.out.ext HE4.out) HOK.out.o0 HOK.out.o1 HOK.out.s0 HOK.out.s1 (by rw [HLN.out]; omega)).mono ?_
      rintro e w5 ⟨he5, hg⟩
      rcases hg with ⟨hno, _⟩ | ⟨i', hpos, rfl⟩
      · exact absurd rfl (posOf_none hno j HJM.out)
      have hji : at_ l i' = j := by
        obtain ⟨q1, q2⟩ := posOf_some hpos
        obtain ⟨i2, hi2, he2⟩ := List.getElem_of_mem HJM.out
        have hn2 := nodup_key HQ.out.nodup
        have a1 : (l.map UrgP.key)[i']? = some (UrgP.key j) := by rw [List.getElem?_map, at_get q1]; exact congrArg some q2
        have a2 : (l.map UrgP.key)[i2]? = some (UrgP.key j) := by rw [List.getElem?_map, List.getElem?_eq_getElem hi2, he2]; rfl
        rw [← a2] at a1
        have := (List.getElem?_inj (by rw [List.length_map]; exact q1) hn2).1 a1
        subst this
        exact at_eq (by rw [List.getElem?_eq_getElem hi2, he2])
      rw [hji]
      have e6 := Ext.new w5 (.cells #[.int .u32 0, .int .u16 0, .int .i64 0] 32)
      have HX5 := Lib.hid (HX4.out.trans he5)
      have HE5 := Lib.hid he5
      clear he5 hpos hji
      go_wp2_with (refine RowSt.wpList_put 32 _ _ rfl rfl rfl w5.heap.size #[.int .u32 j.o, .int .u16 j.s, .int .i64 j.g] rfl rfl 32 _ (at_new _ _) (by kernel_rfl) rfl (by simp [Value.oneCell']) ?_; intro w7 hb7 hc7)
      have E7 := Lib.hid (e6.chg hc7 (fun q k => by have k : q = w5.heap.size := k; omega))
      have d0 : ∀ W, Ext w7.drew W → W.cell? ⟨w5.heap.size, 0, none⟩ = some (.int .u32 j.o) := fun W hW => blk_cell (i := 0) hb7 (drew_ext hW) rfl
      have d1 : ∀ W, Ext w7.drew W → W.cell? ⟨w5.heap.size, 1, none⟩ = some (.int .u16 j.s) := fun W hW => blk_cell (i := 1) hb7 (drew_ext hW) rfl
      have d2 : ∀ W, Ext w7.drew W → W.cell? ⟨w5.heap.size, 2, none⟩ = some (.int .i64 j.g) := fun W hW => blk_cell (i := 2) hb7 (drew_ext hW) rfl
      have HX7 := Lib.hid (HX5.out.trans E7.out)
      have hX47 := HE5.out.trans E7.out
      replace c0 : ∀ W, Ext w7.drew W → W.cell? (ad.add (k * 3)) = some (.int .u32 j.o) := fun W hW => (hX47.trans (drew_ext hW)).cell_ c0
      replace c1 : ∀ W, Ext w7.drew W → W.cell? ⟨(ad.add (k * 3)).block, (ad.add (k * 3)).off + 1, none⟩ = some (.int .u16 j.s) := fun W hW => (hX47.trans (drew_ext hW)).cell_ c1
      replace c2 : ∀ W, Ext w7.drew W → W.cell? ⟨(ad.add (k * 3)).block, (ad.add (k * 3)).off + 2, none⟩ = some (.int .i64 j.g) := fun W hW => (hX47.trans (drew_ext hW)).cell_ c2
      replace p0 : ∀ W, Ext w7.drew W → W.cell? ⟨g, k * 3, none⟩ = some (.int .u32 j.o) := fun W hW => (HX7.out.trans (drew_ext hW)).cell_ p0
      replace p1 : ∀ W, Ext w7.drew W → W.cell? ⟨g, k * 3 + 1, none⟩ = some (.int .u16 j.s) := fun W hW => (HX7.out.trans (drew_ext hW)).cell_ p1
      replace p2 : ∀ W, Ext w7.drew W → W.cell? ⟨g, k * 3 + 2, none⟩ = some (.int .i64 j.g) := fun W hW => (HX7.out.trans (drew_ext hW)).cell_ p2
      clear hb7 hc7 e6 hX47
      go_wp2_with fail
      refine Lex.wp_region_u [0, 1, 2, 3, 4, 5, 6, 7, 8, 9, 10, 11, 12, 13, 14, 15, 16, 17, 18, 19, 20, 21] [] [(8, .const (jobA j))] (by kernel_rfl) (by kernel_rfl) (by repeat (first | exact Lex.st_nil | refine Lex.st_cons (by first | exact Lex.nums_st | exact Lex.const_st | exact Lex.such_st | exact Lex.row_st | exact Lex.rowE_st | exact Lex.litR_st | assumption) ?_)) ?_; simp only [Lex.pick, List.getElem?_cons_succ, List.getElem?_cons_zero, List.map_nil]
      repeat (first | (refine Lex.lexU_skip (by rfl) ?_; simp only [Act.put, List.setIfInBounds_toArray, List.set_cons_zero, List.set_cons_succ]) | (refine Lex.lexU_still (by rfl) (by rfl) (by first | exact Base.Ext.refl | exact Lex.Fill.refl) ?_; apply Exists.intro; refine ⟨fun W hW => ?_, ?_⟩; (have hE := Lex.ext_of_cls hW.1; have hE2 := Lex.ext_drew hE; clear hW; go_simp; try with_reducible rfl); simp only [Act.put, List.setIfInBounds_toArray, List.set_cons_zero, List.set_cons_succ]))
      refine Lex.lexU_loose (by rfl) (by rfl) (fun W hW => ?_) ?_
      · clear hW
        go_simp
        refine (to_calls j _).mono ?_
        rintro e w9 ⟨rfl, he9⟩
        exact ⟨_, rfl, rfl, he9, trivial⟩
      rintro v rfl
      simp only [Act.put, List.setIfInBounds_toArray, List.set_cons_zero, List.set_cons_succ]
      repeat (first | (refine Lex.lexU_skip (by rfl) ?_; simp only [Act.put, List.setIfInBounds_toArray, List.set_cons_zero, List.set_cons_succ]) | (refine Lex.lexU_still (by rfl) (by rfl) (by first | exact Base.Ext.refl | exact Lex.Fill.refl) ?_; apply Exists.intro; refine ⟨fun W hW => ?_, ?_⟩; (have hE := Lex.ext_of_cls hW.1; have hE2 := Lex.ext_drew hE; clear hW; go_simp; try with_reducible rfl); simp only [Act.put, List.setIfInBounds_toArray, List.set_cons_zero, List.set_cons_succ]))
      refine Lex.lexU_nil (fun W hW => ?_)
      have hE := Lib.hid (Lex.ext_drew hW.1)
      clear hW c0 c1 c2 d0 d1 d2 p0 p1 p2
      refine Lex.onlyN_intro ?_
      go_wp2_with fail
      go_roundg (n - (k + 1))
      case measure => omega
      case rel => exact ⟨k + 1, by first | rfl | go_num, by omega, Lib.hid (HX7.out.trans hE.out)⟩
    · obtain rfl : k = n := by omega
      have HEk := Lib.hid (HE1.out.trans HK.out)
      clear HK
      go_wp2_with fail
      refine (first_calls S gq gm l _ (HQ.out.ext HEk.out) (by rw [HLN.out]; omega)).mono ?_
      rintro e w5 ⟨he5, hf⟩
      have e6 := Ext.new w5 (.cells #[.int .u32 0, .int .u16 0, .int .i64 0] 32)
      have HX5 := Lib.hid (HEk.out.trans he5)
      clear he5
      rcases hf with ⟨hl, rfl⟩ | ⟨hl, rfl⟩
      · obtain rfl : k = 0 := by have := HLN.out; rw [hl] at this; exact this.symm
        clear hl
        go_wp2_with (refine RowSt.wpList_put 32 _ _ rfl rfl rfl w5.heap.size #[.int .u32 0, .int .u16 0, .int .i64 0] rfl rfl 32 _ (at_new _ _) (by kernel_rfl) rfl (by simp [Value.oneCell']) ?_; intro w7 hb7 hc7; have E7 := Lib.hid (e6.chg hc7 (fun q k => by have k : q = w5.heap.size := k; omega)); have c0 := blk_cell (i := 0) hb7 (Ext.refl _) rfl; have c1 := blk_cell (i := 1) hb7 (Ext.refl _) rfl; have c2 := blk_cell (i := 2) hb7 (Ext.refl _) rfl; clear hb7 hc7)
        go_ret
        exact ⟨rfl, HX5.out.trans E7.out⟩
      · have hk0 : 0 < k := by have h1 := List.length_pos_iff.2 hl; have := HLN.out; omega
        have hkn0 : ¬ k = 0 := by omega
        have hm0 : 0 < m.length := by rw [HR.out.len]; exact hk0
        have hfirst : at_ l 0 = at_ m 0 := first_left (k := 0) (by rw [List.drop_zero]; exact HP.out) HH.out HS.out hm0
        rw [hfirst]
        obtain ⟨_, ad, hA, c0, c1, c2⟩ := HR.out.at_ 0 _ (at_get hm0)
        subst hA
        obtain ⟨j, hj⟩ : ∃ j, j = at_ m 0 := ⟨_, rfl⟩
        rw [← hj] at c0 c1 c2 ⊢
        clear hj hfirst hl hm0
        go_wp2_with (refine RowSt.wpList_put 32 _ _ rfl rfl rfl w5.heap.size #[.int .u32 j.o, .int .u16 j.s, .int .i64 j.g] rfl rfl 32 _ (at_new _ _) (by kernel_rfl) rfl (by simp [Value.oneCell']) ?_; intro w7 hb7 hc7)
        have E7 := Lib.hid (e6.chg hc7 (fun q k => by have k : q = w5.heap.size := k; omega))
        have HX7 := Lib.hid (HX5.out.trans E7.out)
        have d0 : ∀ W, Ext w7.drew W → W.cell? ⟨w5.heap.size, 0, none⟩ = some (.int .u32 j.o) := fun W hW => blk_cell (i := 0) hb7 (drew_ext hW) rfl
        have d1 : ∀ W, Ext w7.drew W → W.cell? ⟨w5.heap.size, 1, none⟩ = some (.int .u16 j.s) := fun W hW => blk_cell (i := 1) hb7 (drew_ext hW) rfl
        have d2 : ∀ W, Ext w7.drew W → W.cell? ⟨w5.heap.size, 2, none⟩ = some (.int .i64 j.g) := fun W hW => blk_cell (i := 2) hb7 (drew_ext hW) rfl
        rw [Nat.zero_mul] at c0 c1 c2
        have hz : ad.add 0 = ad := by unfold Addr.add; simp
        rw [hz] at c0 c1 c2
        replace c0 : ∀ W, Ext w7.drew W → W.cell? ad = some (.int .u32 j.o) := fun W hW => (HX7.out.trans (drew_ext hW)).cell_ c0
        replace c1 : ∀ W, Ext w7.drew W → W.cell? ⟨ad.block, ad.off + 1, none⟩ = some (.int .u16 j.s) := fun W hW => (HX7.out.trans (drew_ext hW)).cell_ c1
        replace c2 : ∀ W, Ext w7.drew W → W.cell? ⟨ad.block, ad.off + 2, none⟩ = some (.int .i64 j.g) := fun W hW => (HX7.out.trans (drew_ext hW)).cell_ c2
        clear hb7 hc7 e6
        go_wp2_with fail
        refine Lex.wp_region_u [0, 1, 2, 3, 4, 5, 6, 7, 8, 9] [] [(6, .const (jobA j))] (by kernel_rfl) (by kernel_rfl) (by repeat (first | exact Lex.st_nil | refine Lex.st_cons (by first | exact Lex.nums_st | exact Lex.const_st | exact Lex.such_st | exact Lex.row_st | exact Lex.rowE_st | exact Lex.litR_st | assumption) ?_)) ?_; simp only [Lex.pick, List.getElem?_cons_succ, List.getElem?_cons_zero, List.map_nil]
        repeat (first | (refine Lex.lexU_skip (by rfl) ?_; simp only [Act.put, List.setIfInBounds_toArray, List.set_cons_zero, List.set_cons_succ]) | (refine Lex.lexU_still (by rfl) (by rfl) (by first | exact Base.Ext.refl | exact Lex.Fill.refl) ?_; apply Exists.intro; refine ⟨fun W hW => ?_, ?_⟩; (have hE := Lex.ext_of_cls hW.1; have hE2 := Lex.ext_drew hE; clear hW; go_simp; try with_reducible rfl); simp only [Act.put, List.setIfInBounds_toArray, List.set_cons_zero, List.set_cons_succ]))
        refine Lex.lexU_loose (by rfl) (by rfl) (fun W hW => ?_) ?_
        · clear hW
          go_simp
          refine (to_calls j _).mono ?_
          rintro e w9 ⟨rfl, he9⟩
          exact ⟨_, rfl, rfl, he9, trivial⟩
        rintro v rfl
        simp only [Act.put, List.setIfInBounds_toArray, List.set_cons_zero, List.set_cons_succ]
        repeat (first | (refine Lex.lexU_skip (by rfl) ?_; simp only [Act.put, List.setIfInBounds_toArray, List.set_cons_zero, List.set_cons_succ]) | (refine Lex.lexU_still (by rfl) (by rfl) (by first | exact Base.Ext.refl | exact Lex.Fill.refl) ?_; apply Exists.intro; refine ⟨fun W hW => ?_, ?_⟩; (have hE := Lex.ext_of_cls hW.1; have hE2 := Lex.ext_drew hE; clear hW; go_simp; try with_reducible rfl); simp only [Act.put, List.setIfInBounds_toArray, List.set_cons_zero, List.set_cons_succ]))
        refine Lex.lexU_nil (fun W hW => ?_)
        have hE := Lib.hid (Lex.ext_drew hW.1)
        clear hW c0 c1 c2 d0 d1 d2
        refine Lex.onlyN_intro ?_
        go_wp2_with fail
        go_ret
        exact ⟨rfl, HX7.out.trans hE.out⟩
end Go.Proofs.Ytipmkddcdnbihaa.Urg
