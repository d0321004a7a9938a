/- The law compares an object of the program's with the document's: alike, it says yes. -/
import Derived.Test.YtfhgjopoohfhjaaTableM
import Derived.Deep.MidRow
import Derived.Test.YtfhgjopoohfhjaaLexU
namespace Go.Proofs.Ytfhgjopoohfhjaa.Tbl
open Go.RowKit Base Step Vec Shape Erase
set_option maxRecDepth 100000 in
theorem next_calls (gt sl nd : Nat) (t : Tb) (w : World) (h : TbAt w gt sl nd t) :
    Calls Try.prog 142 #[.pointer (some ⟨gt, 0, none⟩)] w fun e w' => e = .returned (.int .u32 t.nx) ∧ w = w' := by
  have c2 : w.cell? ⟨gt, 2, none⟩ = some (.int .u32 t.nx) := blk_cell (i := 2) h.at_ (Ext.refl _) rfl
  clear h
  go_enter Try.func142, Try.ntmps142
  go_wp2_with fail
  go_ret
  exact ⟨rfl, rfl⟩
set_option maxRecDepth 100000 in
set_option maxHeartbeats 4000000 in
theorem is_calls (nm : Int) (s : ByteArray) (l c p : Int) (A B : Option Addr) (n ca cb : Nat) (la lb : List Row) (w : World) (ha : (Sh.sl rowS).ok w (A, n, ca, la)) (hb : (Sh.sl rowS).ok w (B, n, cb, lb)) (hv : la.map rP = lb.map rP) :
    Calls Try.prog 146 #[.agg #[.int .u32 nm, .string s, .int .i64 l, .int .i64 c, .int .i64 p, .slice A n ca], .agg #[.int .u32 nm, .string s, .int .i64 l, .int .i64 c, .int .i64 p, .slice B n cb]] w fun e w' => e = .returned (.bool true) ∧ Ext w w' := by
  have HA := Lib.hid ha
  have HB := Lib.hid hb
  have HV := Lib.hid hv
  obtain ⟨hl, hnc, hcm, _⟩ := sl_len ha
  have hnb := (sl_len hb).2.1
  have HL := Lib.hid hl
  have e1 := Ext.new w (.cells #[.int .u32 nm, .string s, .int .i64 l, .int .i64 c, .int .i64 p, .slice A n ca] 108)
  have e2 := Ext.new (w.alloc (.cells #[.int .u32 nm, .string s, .int .i64 l, .int .i64 c, .int .i64 p, .slice A n ca] 108)) (.cells #[.int .u32 nm, .string s, .int .i64 l, .int .i64 c, .int .i64 p, .slice B n cb] 234)
  have hb1 := e2.at_ (at_new w (.cells #[.int .u32 nm, .string s, .int .i64 l, .int .i64 c, .int .i64 p, .slice A n ca] 108))
  have hb2 := at_new (w.alloc (.cells #[.int .u32 nm, .string s, .int .i64 l, .int .i64 c, .int .i64 p, .slice A n ca] 108)) (.cells #[.int .u32 nm, .string s, .int .i64 l, .int .i64 c, .int .i64 p, .slice B n cb] 234)
  clear ha hb hv hl
  go_enter Try.func146, Try.ntmps146
  go_upto_region 1 with fail
  generalize (w.alloc (.cells #[.int .u32 nm, .string s, .int .i64 l, .int .i64 c, .int .i64 p, .slice A n ca] 108)).alloc (.cells #[.int .u32 nm, .string s, .int .i64 l, .int .i64 c, .int .i64 p, .slice B n cb] 234) = w1 at *
  simp only [World.size_alloc] at hb2
  generalize w.heap.size = g at *
  have a0 := blk_cell (i := 0) hb1 (Ext.refl _) rfl
  have a1 := blk_cell (i := 1) hb1 (Ext.refl _) rfl
  have a2 := blk_cell (i := 2) hb1 (Ext.refl _) rfl
  have a3 := blk_cell (i := 3) hb1 (Ext.refl _) rfl
  have a4 := blk_cell (i := 4) hb1 (Ext.refl _) rfl
  have a5 := blk_cell (i := 5) hb1 (Ext.refl _) rfl
  have b0 := blk_cell (i := 0) hb2 (Ext.refl _) rfl
  have b1 := blk_cell (i := 1) hb2 (Ext.refl _) rfl
  have b2 := blk_cell (i := 2) hb2 (Ext.refl _) rfl
  have b3 := blk_cell (i := 3) hb2 (Ext.refl _) rfl
  have b4 := blk_cell (i := 4) hb2 (Ext.refl _) rfl
  have b5 := blk_cell (i := 5) hb2 (Ext.refl _) rfl
  have HE1 := Lib.hid (e1.trans e2)
  have HB1 := Lib.hid hb1
  have HB2 := Lib.hid hb2
  clear e1 e2 hb1 hb2
  go_wp2_with fail
  clear a0 a1 a2 a3 a4 a5 b0 b1 b2 b3 b4 b5
  go_loopg [5] n (fun q i wi => ∃ (j : Nat), j ≤ n ∧ q = n - j ∧ i = .int .i64 (j : Nat) ∧ Hid (Ext w1 wi))
  case atStart => exact ⟨0, Nat.zero_le _, rfl, rfl, Lib.hid (Ext.refl _)⟩
  case round =>
    obtain ⟨j, hj, rfl, rfl, HX⟩ := hrel
    have b5 : wr.cell? ⟨g + 1, 5, none⟩ = some (.slice B n cb) := blk_cell (i := 5) HB2.out HX.out rfl
    by_cases hlt : j < n
    · obtain ⟨ad, ra, rfl, hra, hca, hoka⟩ := row_at HA.out hlt
      obtain ⟨bd, rb, rfl, hrb, hcb, hokb⟩ := row_at HB.out hlt
      have hpp : rP ra = rP rb := by
        have h1 : (la.map rP)[j]? = some (rP ra) := by rw [List.getElem?_map, hra]; rfl
        rw [HV.out, List.getElem?_map, hrb] at h1
        exact (Option.some.inj h1).symm
      have hn2 : rN rb = rN ra := by rw [← (sl_len hokb).1, ← (sl_len hoka).1, hpp]
      rw [hn2] at hcb hokb
      have hca2 := (HE1.out.trans HX.out).cell_ hca
      have hcb2 := (HE1.out.trans HX.out).cell_ hcb
      have HOA := Lib.hid hoka
      have HOB := Lib.hid hokb
      have hrc : rN ra ≤ rC ra := (sl_len hoka).2.1
      have hrcb : rN ra ≤ rC rb := (sl_len hokb).2.1
      have hrm := (sl_len hoka).2.2.1
      have HPP := Lib.hid hpp
      have HCA := Lib.hid hca
      have HCB := Lib.hid hcb
      have hji : ((j : Nat) : Int) < ((n : Nat) : Int) := by omega
      clear hra hca hoka hrb hcb hokb hn2 hpp
      go_upto_region 6 with fail
      generalize rN ra = m at *
      generalize hRA : rA ra = RA at *
      generalize hRB : rA rb = RB at *
      have z1 : ∀ W, Ext wr.drew W → W.cell? ⟨g, 5, none⟩ = some (.slice (some ad) n ca) := fun W hW => blk_cell (i := 5) HB1.out (HX.out.trans (drew_ext hW)) rfl
      have z2 : ∀ W, Ext wr.drew W → W.cell? ⟨g + 1, 5, none⟩ = some (.slice (some bd) n cb) := fun W hW => blk_cell (i := 5) HB2.out (HX.out.trans (drew_ext hW)) rfl
      have z3 : ∀ W, Ext wr.drew W → W.cell? (ad.add j) = some (.slice RA m (rC ra)) := fun W hW => (drew_ext hW).cell_ hca2
      have z4 : ∀ W, Ext wr.drew W → W.cell? (bd.add j) = some (.slice RB m (rC rb)) := fun W hW => (drew_ext hW).cell_ hcb2
      clear hca2 hcb2 b5
      refine Lex.wp_region_u [0, 1, 2, 3, 4, 5, 6, 7, 8, 9, 10, 11, 12] [] [] (by kernel_rfl) (by kernel_rfl) (by repeat (first | exact Lex.st_nil | refine Lex.st_cons (by first | exact Lex.nums_st | exact Lex.const_st | exact Lex.such_st | exact Lex.row_st | exact Lex.rowE_st | exact Lex.litR_st | assumption) ?_)) ?_; simp only [Lex.pick, List.getElem?_cons_succ, List.getElem?_cons_zero, List.map_nil]
      repeat (first | (refine Lex.lexU_skip (by rfl) ?_; simp only [Act.put, List.setIfInBounds_toArray, List.set_cons_zero, List.set_cons_succ]) | (refine Lex.lexU_still (by rfl) (by rfl) (by first | exact Base.Ext.refl | exact Lex.Fill.refl) ?_; apply Exists.intro; refine ⟨fun W hW => ?_, ?_⟩; (have hE := Lex.ext_of_cls hW.1; have hE2 := Lex.ext_drew hE; clear hW; go_simp; try with_reducible rfl); simp only [Act.put, List.setIfInBounds_toArray, List.set_cons_zero, List.set_cons_succ]))
      refine Lex.lexU_nil (fun W hW => ?_)
      have HX2 : Hid (Ext w1 W) := Lib.hid (HX.out.trans (Lex.ext_drew hW.1))
      clear hW z1 z2 z3 z4 HX
      refine Lex.onlyN_intro ?_
      go_wp2_with fail
      go_loopg [6] m (fun q i wi => ∃ (k : Nat), k ≤ m ∧ q = m - k ∧ i = .int .i64 (k : Nat) ∧ Hid (Ext w1 wi))
      case atStart => exact ⟨0, Nat.zero_le _, rfl, rfl, HX2⟩
      case round =>
        clear HX2
        obtain ⟨k, hk, rfl, rfl, HX⟩ := hrel
        have b5 : wr.cell? ⟨g + 1, 5, none⟩ = some (.slice (some bd) n cb) := blk_cell (i := 5) HB2.out HX.out rfl
        have hcb2 := (HE1.out.trans HX.out).cell_ HCB.out
        by_cases hlt2 : k < m
        · obtain ⟨ap, p1, rfl, hp1, hp10, hp11, _, _⟩ := place_at HOA.out hlt2
          obtain ⟨bp, p2, rfl, hp2, hp20, hp21, _, _⟩ := place_at HOB.out hlt2
          rw [HPP.out, hp2] at hp1
          cases hp1
          have hca2 := (HE1.out.trans HX.out).cell_ HCA.out
          have d10 := (HE1.out.trans HX.out).cell_ hp10
          have d11 := (HE1.out.trans HX.out).cell_ hp11
          have d20 := (HE1.out.trans HX.out).cell_ hp20
          have d21 := (HE1.out.trans HX.out).cell_ hp21
          have hki : ((k : Nat) : Int) < ((m : Nat) : Int) := by omega
          clear hp2 hp10 hp11 hp20 hp21
          go_upto_region 11 with fail
          have z1 : ∀ W, Ext wr.drew W → W.cell? ⟨g, 5, none⟩ = some (.slice (some ad) n ca) := fun W hW => blk_cell (i := 5) HB1.out (HX.out.trans (drew_ext hW)) rfl
          have z2 : ∀ W, Ext wr.drew W → W.cell? ⟨g + 1, 5, none⟩ = some (.slice (some bd) n cb) := fun W hW => blk_cell (i := 5) HB2.out (HX.out.trans (drew_ext hW)) rfl
          have z3 : ∀ W, Ext wr.drew W → W.cell? (ad.add j) = some (.slice (some ap) m (rC ra)) := fun W hW => (drew_ext hW).cell_ hca2
          have z4 : ∀ W, Ext wr.drew W → W.cell? (bd.add j) = some (.slice (some bp) m (rC rb)) := fun W hW => (drew_ext hW).cell_ hcb2
          have y0 : ∀ W, Ext wr.drew W → W.cell? (ap.add (k * 2)) = some (.int .i64 (node p1)) := fun W hW => (drew_ext hW).cell_ d10
          have y1 : ∀ W, Ext wr.drew W → W.cell? ⟨(ap.add (k * 2)).block, (ap.add (k * 2)).off + 1, none⟩ = some (.int .u32 (gen p1)) := fun W hW => (drew_ext hW).cell_ d11
          have y2 : ∀ W, Ext wr.drew W → W.cell? (bp.add (k * 2)) = some (.int .i64 (node p1)) := fun W hW => (drew_ext hW).cell_ d20
          have y3 : ∀ W, Ext wr.drew W → W.cell? ⟨(bp.add (k * 2)).block, (bp.add (k * 2)).off + 1, none⟩ = some (.int .u32 (gen p1)) := fun W hW => (drew_ext hW).cell_ d21
          clear hca2 hcb2 b5 d10 d11 d20 d21
          refine Lex.wp_region_u [0, 1, 2, 3, 4, 5, 6, 7, 8, 9, 10, 11, 12, 13, 14, 15, 16, 17, 18, 19, 20, 21, 22, 23, 24, 25, 26, 27, 28, 29, 30, 31, 32, 33, 34, 35, 36, 37, 38, 39] [] [] (by kernel_rfl) (by kernel_rfl) (by repeat (first | exact Lex.st_nil | refine Lex.st_cons (by first | exact Lex.nums_st | exact Lex.const_st | exact Lex.such_st | exact Lex.row_st | exact Lex.rowE_st | exact Lex.litR_st | assumption) ?_)) ?_; simp only [Lex.pick, List.getElem?_cons_succ, List.getElem?_cons_zero, List.map_nil]
          repeat (first | (refine Lex.lexU_skip (by rfl) ?_; simp only [Act.put, List.setIfInBounds_toArray, List.set_cons_zero, List.set_cons_succ]) | (refine Lex.lexU_still (by rfl) (by rfl) (by first | exact Base.Ext.refl | exact Lex.Fill.refl) ?_; apply Exists.intro; refine ⟨fun W hW => ?_, ?_⟩; (have hE := Lex.ext_of_cls hW.1; have hE2 := Lex.ext_drew hE; clear hW; go_simp; try with_reducible rfl); simp only [Act.put, List.setIfInBounds_toArray, List.set_cons_zero, List.set_cons_succ]))
          refine Lex.lexU_nil (fun W hW => ?_)
          have HX2 : Hid (Ext w1 W) := Lib.hid (HX.out.trans (Lex.ext_drew hW.1))
          clear hW z1 z2 z3 z4 y0 y1 y2 y3 HX
          refine Lex.onlyN_intro ?_
          go_wp2_with fail
          go_roundg (m - (k + 1))
          case measure => omega
          case rel => exact ⟨k + 1, by omega, rfl, by first | rfl | go_num, HX2⟩
        · obtain rfl : k = m := by omega
          go_wp2_with fail
          go_roundg (n - (j + 1))
          case measure => omega
          case rel => exact ⟨j + 1, by omega, rfl, by first | rfl | go_num, HX⟩
    · obtain rfl : j = n := by omega
      go_wp2_with fail
      go_ret
      exact ⟨rfl, HE1.out.trans HX.out⟩
end Go.Proofs.Ytfhgjopoohfhjaa.Tbl
