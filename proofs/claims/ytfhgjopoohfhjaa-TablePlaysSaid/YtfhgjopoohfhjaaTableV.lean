/- The document's tables: which plans may be; walked. -/
import Derived.Test.YtfhgjopoohfhjaaTableU
import Derived.Test.YtfhgjopoohfhjaaLexR
namespace Go.Proofs.Ytfhgjopoohfhjaa.Tbl
open Go.RowKit Base Step Vec Shape Erase
/-- An answer that tells whether p. -/
def saysL (p : Prop) : Lex.Loose := ⟨fun v => ∃ b : Bool, v = .bool b, fun v _ => v = .bool true ↔ p⟩
theorem saysL_st {p : Prop} : (saysL p).St Ext := fun _ _ _ h _ => h
set_option maxRecDepth 100000 in
set_option maxHeartbeats 4000000 in
theorem rPlan_calls (sl nd : Nat) (t : Tb) (o : Op) (w : World) (ho : (Sh.sl rowS).ok w (o.A, o.n, o.cap, o.rows)) (hm : o.n ≤ 1099511627776) (hr : ∀ r ∈ o.rows, rN r ≤ 8796093021952) :
    Calls Try.prog 191 #[tabV sl nd t, opV o] w (Says w (PlanOk sl nd o)) := by
  have HO := Lib.hid ho
  have HR := Lib.hid hr
  have HN := Lib.hid (sl_len ho).1
  have hmc := (sl_len ho).2.1
  have e0 := Lib.hid ((Ext.new w (.cells (tabC sl nd t) 149)).alloc (.cells (opC o) 116))
  have hbt := (Ext.new (w.alloc (.cells (tabC sl nd t) 149)) (.cells (opC o) 116)).at_ (at_new w (.cells (tabC sl nd t) 149))
  have hbo := at_new (w.alloc (.cells (tabC sl nd t) 149)) (.cells (opC o) 116)
  have hsz : (w.alloc (.cells (tabC sl nd t) 149)).heap.size = w.heap.size + 1 := by simp
  rw [hsz] at hbo
  clear ho hr hsz
  go_enter Try.func191, Try.ntmps191
  go_upto_region 1 with fail
  generalize (w.alloc (.cells (tabC sl nd t) 149)).alloc (.cells (opC o) 116) = w1 at *
  have HBT := Lib.hid hbt
  have HBO := Lib.hid hbo
  have b3 : w1.cell? ⟨w.heap.size + 1, 3, none⟩ = some (.int .i64 o.l) := blk_cell (i := 3) hbo (Ext.refl _) rfl
  have b4 : w1.cell? ⟨w.heap.size + 1, 4, none⟩ = some (.int .i64 o.c) := blk_cell (i := 4) hbo (Ext.refl _) rfl
  have b5 : w1.cell? ⟨w.heap.size + 1, 5, none⟩ = some (.int .i64 o.p) := blk_cell (i := 5) hbo (Ext.refl _) rfl
  clear hbt hbo
  go_upto_region 2 with fail
  have hp := at_new w1 (.cells #[.int .i64 o.l, .int .i64 o.c, .int .i64 o.p] 111)
  have e2 := Lib.hid (e0.out.alloc (.cells #[.int .i64 o.l, .int .i64 o.c, .int .i64 o.p] 111))
  have hX2 := Lib.hid (Ext.new w1 (.cells #[.int .i64 o.l, .int .i64 o.c, .int .i64 o.p] 111))
  have hb2 := hX2.out.at_ HBO.out
  generalize w1.alloc (.cells #[.int .i64 o.l, .int .i64 o.c, .int .i64 o.p] 111) = w2 at *
  have p0 : w2.cell? ⟨w1.heap.size, 0, none⟩ = some (.int .i64 o.l) := blk_cell (i := 0) hp (Ext.refl _) rfl
  have p1 : w2.cell? ⟨w1.heap.size, 1, none⟩ = some (.int .i64 o.c) := blk_cell (i := 1) hp (Ext.refl _) rfl
  have p2 : w2.cell? ⟨w1.heap.size, 2, none⟩ = some (.int .i64 o.p) := blk_cell (i := 2) hp (Ext.refl _) rfl
  have b6 : w2.cell? ⟨w.heap.size + 1, 6, none⟩ = some (.slice o.A o.n o.cap) := blk_cell (i := 6) hb2 (Ext.refl _) rfl
  clear b3 b4 b5 hp
  by_cases hall : 0 ≤ o.l ∧ o.l ≤ 16384 ∧ 0 ≤ o.c ∧ o.c ≤ 32 ∧ 1 ≤ o.p ∧ o.p ≤ 256 ∧ (o.n : Int) = o.c
  · have HALL := Lib.hid hall
    obtain ⟨g1, g2, g3, g4, g5, g6, g7⟩ := hall
    have n1 : ¬ o.l < 0 := by omega
    have n2 : ¬ 16384 < o.l := by omega
    have n3 : ¬ o.c < 0 := by omega
    have n4 : ¬ 32 < o.c := by omega
    have n5 : ¬ o.p < 1 := by omega
    have n6 : ¬ 256 < o.p := by omega
    have n7 : ((o.n : Int) != o.c) = false := by rw [g7]; simp
    clear g1 g2 g3 g4 g5 g6 g7
    go_wp2_with fail
    clear n1 n2 n3 n4 n5 n6 n7 p0 p1 p2 b6
    go_loopg [6] o.n (fun g i wr => ∃ k : Nat, k ≤ o.n ∧ g = o.n - k ∧ i = .int .i64 k ∧ Hid (Ext w2 wr ∧ ∀ r ∈ o.rows.take k, Right sl nd (rP r)))
    case atStart => exact ⟨0, Nat.zero_le _, rfl, rfl, Lib.hid ⟨Ext.refl _, by simp⟩⟩
    case round =>
      obtain ⟨k, hk, rfl, rfl, hrel⟩ := hrel
      obtain ⟨hex, hok⟩ := hrel.out
      have HX := Lib.hid (hX2.out.trans hex)
      have HK := Lib.hid hok
      have b6 : wr.cell? ⟨w.heap.size + 1, 6, none⟩ = some (.slice o.A o.n o.cap) := blk_cell (i := 6) HBO.out HX.out rfl
      have HXX := Lib.hid hex
      clear hrel hex hok
      by_cases hlt : k < o.n
      · obtain ⟨ad, r, hA, hr, hcell, hrok⟩ := row_at HO.out hlt
        have HROK := Lib.hid hrok
        have HRR := Lib.hid hr
        have HC := Lib.hid hcell
        have hrn := HR.out r (List.mem_of_getElem? hr)
        rw [hA] at b6
        clear hcell hrok hr
        go_upto_region 7 with fail
        have y0 : ∀ W, Ext wr.drew W → W.cell? ⟨w.heap.size, 0, none⟩ = some (.int .i64 sl) := fun W hW => blk_cell (i := 0) HBT.out (HX.out.trans (drew_ext hW)) rfl
        have y1 : ∀ W, Ext wr.drew W → W.cell? ⟨w.heap.size, 1, none⟩ = some (.int .i64 nd) := fun W hW => blk_cell (i := 1) HBT.out (HX.out.trans (drew_ext hW)) rfl
        have y2 : ∀ W, Ext wr.drew W → W.cell? ⟨w.heap.size, 2, none⟩ = some (.int .u32 t.nx) := fun W hW => blk_cell (i := 2) HBT.out (HX.out.trans (drew_ext hW)) rfl
        have y3 : ∀ W, Ext wr.drew W → W.cell? ⟨w.heap.size, 3, none⟩ = some (.int .u32 t.ls) := fun W hW => blk_cell (i := 3) HBT.out (HX.out.trans (drew_ext hW)) rfl
        have y4 : ∀ W, Ext wr.drew W → W.cell? ⟨w.heap.size, 4, none⟩ = some (.slice t.A t.n t.c) := fun W hW => blk_cell (i := 4) HBT.out (HX.out.trans (drew_ext hW)) rfl
        have y6 : ∀ W, Ext wr.drew W → W.cell? ⟨w.heap.size + 1, 6, none⟩ = some (.slice (some ad) o.n o.cap) := fun W hW => by rw [← hA]; exact blk_cell (i := 6) HBO.out (HX.out.trans (drew_ext hW)) rfl
        have z0 : ∀ W, Ext wr.drew W → W.cell? (ad.add k) = some (.slice (rA r) (rN r) (rC r)) := fun W hW => ((e0.out.trans HX.out).trans (drew_ext hW)).cell_ HC.out
        have hki : ((k : Nat) : Int) < ((o.n : Nat) : Int) := by omega
        have hsR : (saysL (Right sl nd (rP r))).St Ext := saysL_st
        refine Lex.wp_region_u [0, 1, 2, 3, 4, 5, 6, 7] [] [(6, saysL (Right sl nd (rP r)))] (by kernel_rfl) (by kernel_rfl) (by repeat (first | exact Lex.st_nil | refine Lex.st_cons (by first | exact Lex.nums_st | exact Lex.const_st | exact Lex.such_st | exact Lex.row_st | exact Lex.rowE_st | exact Lex.litR_st | assumption) ?_)) ?_; simp only [Lex.pick, List.getElem?_cons_succ, List.getElem?_cons_zero, List.map_nil]
        repeat (first | (refine Lex.lexU_skip (by rfl) ?_; simp only [Act.put, List.setIfInBounds_toArray, List.set_cons_zero, List.set_cons_succ]) | (refine Lex.lexU_still (by rfl) (by rfl) (by first | exact Base.Ext.refl | exact Lex.Fill.refl) ?_; apply Exists.intro; refine ⟨fun W hW => ?_, ?_⟩; (have hE := Lex.ext_of_cls hW.1; have hE2 := Lex.ext_drew hE; clear hW; go_simp; try with_reducible rfl); simp only [Act.put, List.setIfInBounds_toArray, List.set_cons_zero, List.set_cons_succ]))
        refine Lex.lexU_loose (by rfl) (by rfl) (fun W hW => ?_) ?_
        · have hE := Lex.ext_drew (Lex.ext_of_cls hW.1)
          clear hW
          go_simp
          refine (rRight_calls sl nd t (rA r) (rN r) (rC r) (rP r) _ (Sh.ok_ext ((e0.out.trans HX.out).trans hE) _ _ HROK.out) hrn).mono ?_
          rintro e w5 ⟨he5, b, rfl, hbr⟩
          exact ⟨_, rfl, ⟨b, rfl⟩, he5, ⟨fun h => hbr.1 (by injection h), fun h => by rw [hbr.2 h]⟩⟩
        rintro v ⟨b, rfl⟩
        simp only [Act.put, List.setIfInBounds_toArray, List.set_cons_zero, List.set_cons_succ]
        repeat (first | (refine Lex.lexU_skip (by rfl) ?_; simp only [Act.put, List.setIfInBounds_toArray, List.set_cons_zero, List.set_cons_succ]) | (refine Lex.lexU_still (by rfl) (by rfl) (by first | exact Base.Ext.refl | exact Lex.Fill.refl) ?_; apply Exists.intro; refine ⟨fun W hW => ?_, ?_⟩; (have hE := Lex.ext_of_cls hW.1; have hE2 := Lex.ext_drew hE; clear hW; go_simp; try with_reducible rfl); simp only [Act.put, List.setIfInBounds_toArray, List.set_cons_zero, List.set_cons_succ]))
        refine Lex.lexU_nil (fun W hW => ?_)
        have hE := Lib.hid (Lex.ext_drew hW.1)
        have hbr := (hW.2 6).2 rfl
        have HBR := Lib.hid hbr
        clear hW y0 y1 y2 y3 y4 y6 z0 hbr b6
        refine Lex.onlyN_intro ?_
        cases b with
        | false =>
          go_wp2_with fail
          go_ret
          exact says_no ((e0.out.trans HX.out).trans hE.out) fun hp => by
            have h1 := HBR.out.2 (hp.rows r (List.mem_of_getElem? HRR.out))
            cases h1
        | true =>
          go_wp2_with fail
          go_roundg (o.n - (k + 1))
          case measure => omega
          case rel => exact ⟨k + 1, by omega, rfl, by first | rfl | go_num, Lib.hid ⟨HXX.out.trans hE.out, fun q hq => by
            rw [List.take_add_one, HRR.out] at hq
            rcases List.mem_append.1 hq with hq | hq
            · exact HK.out q hq
            · simp at hq
              subst hq
              exact HBR.out.1 rfl⟩⟩
      · obtain rfl : k = o.n := by omega
        go_wp2_with fail
        go_ret
        have hk := HK.out
        rw [List.take_of_length_le (by rw [HN.out]; exact Nat.le_refl _)] at hk
        obtain ⟨g1, g2, g3, g4, g5, g6, g7⟩ := HALL.out
        exact says_yes (e0.out.trans HX.out) ⟨g1, g2, g3, g4, g5, g6, g7, hk⟩
  · have HBAD : Hid (¬ PlanOk sl nd o) := Lib.hid fun hp => hall ⟨hp.l0, hp.l1, hp.c0, hp.c1, hp.p0, hp.p1, hp.n⟩
    have hb : (decide (o.l < 0) || decide (16384 < o.l) || decide (o.c < 0) || decide (32 < o.c) || decide (o.p < 1) || decide (256 < o.p) || ((o.n : Int) != o.c)) = true := by
      simp only [Bool.or_eq_true, decide_eq_true_eq, bne_iff_ne, ne_eq]
      omega
    clear hall
    go_wp2_with fail
    all_goals
      go_ret
      exact says_no e2.out HBAD.out
end Go.Proofs.Ytfhgjopoohfhjaa.Tbl
