/- SiteNears, walked: which points are nearest, how far any two lie from each other at least, and all added. -/
import Derived.Test.YtaohnialheccdaaSiteRn
namespace Go.Proofs.Ytaohnialheccdaa.SiteNearsW
open Go.RowKit Base Step Vec Site Ref09 SitePts
open SiteN (MinOf)
open Shape (Sh Fs)
set_option maxRecDepth 100000 in
set_option maxHeartbeats 1000000 in
theorem right_bad (A : Option Addr) (n c : Nat) (ps : List (Int × Int)) (w : World) (h : Pts w A n ps) (hbad : ¬ (n ≤ 60 ∧ ∀ p ∈ ps, near p.1 ∧ near p.2)) :
    Calls Try.prog 57 #[.slice A n c] w fun e w' => e = .returned (.bool false) ∧ Ext w w' := by
  have hl := h.len
  have HBAD := Lib.hid hbad
  have hroom := h.room
  clear hbad
  go_enter Try.func57, Try.ntmps57
  go_wp2_with fail
  go_loopw [3] (fun i wr => ∃ k : Nat, i = .int .i64 k ∧ k ≤ n ∧ k ≤ 60 ∧ Hid (∀ j p, j < k → ps[j]? = some p → near p.1 ∧ near p.2) ∧ Ext w wr) (fun i _ => n - (intOf i).toNat)
  case atStart => exact ⟨0, rfl, Nat.zero_le _, by omega, Lib.hid fun j p hj => by omega, Ext.refl _⟩
  case round =>
    obtain ⟨k, rfl, hk, hk60, HALL, hx⟩ := hrel
    by_cases hlt : k < n
    · by_cases h60 : k < 60
      · obtain ⟨p, hp⟩ : ∃ p, ps[k]? = some p := ⟨_, List.getElem?_eq_getElem (by omega)⟩
        obtain ⟨ad, rfl, x0, x1⟩ := (h.ext hx).at_ k p hp
        have h60' : (k : Int) < 60 := by omega
        by_cases hq : near p.1 ∧ near p.2
        · have HR := Lib.hid fun W => Ref09.right_yes p.1 p.2 W hq.1 hq.2
          have HALL2 : Hid (∀ j p, j < k + 1 → ps[j]? = some p → near p.1 ∧ near p.2) := Lib.hid fun j q hj hjq => by
            rcases Nat.lt_or_ge j k with h' | h'
            · exact HALL.out j q h' hjq
            · obtain rfl : j = k := by omega
              rw [hp] at hjq
              cases hjq
              exact hq
          clear hp hq
          go_wp2_with fail
          refine (HR.out _).mono ?_
          rintro e w5 ⟨rfl, he5⟩
          have hx5 := hx.trans he5
          clear he5 x0 x1 hx
          go_wp2_with fail
          go_roundw
          case rel => exact ⟨k + 1, by go_num, by omega, by omega, HALL2, hx5⟩
          case measure => simp [intOf]; omega
        · have HR := Lib.hid fun W => Ref09.right_no p.1 p.2 W hq
          clear hp hq
          go_wp2_with fail
          refine (HR.out _).mono ?_
          rintro e w5 ⟨rfl, he5⟩
          have hx5 := hx.trans he5
          clear he5 x0 x1 hx
          go_wp2_with fail
          go_ret
          exact ⟨rfl, hx5⟩
      · have h60' : ¬ (k : Int) < 60 := by omega
        have h61 : ¬ (n : Int) ≤ 60 := by omega
        go_wp2_with fail
        go_ret
        exact ⟨by simp [h61], hx⟩
    · obtain rfl : k = n := by omega
      exfalso
      exact HBAD.out ⟨hk60, fun p hp => by
        obtain ⟨j, hj, rfl⟩ := List.getElem_of_mem hp
        exact HALL.out j _ (by omega) (List.getElem?_eq_getElem hj)⟩
set_option maxRecDepth 100000 in
theorem is_big (v : Value) (x y : Int) (w : World) (h : Pt v x y) (h1 : -1099511627776 ≤ x ∧ x ≤ 1099511627776) (h2 : -1099511627776 ≤ y ∧ y ≤ 1099511627776) : Calls Try.prog 22 #[v, P2 x y] w fun e w' => e = .returned (.bool true) ∧ Ext w w' := by
  obtain ⟨a, b, rfl, ha, hb⟩ := h
  have HP := Lib.hid fun W => parts_calls a b x y W (Float.toInt_is ha (by omega) (by omega)) (Float.toInt_is hb (by omega) (by omega))
  clear ha hb
  go_enter Try.func22, Try.ntmps22
  go_wp2_with fail
  refine (HP.out _).mono ?_
  rintro e w' ⟨rfl, rfl⟩
  go_wp2_with fail
  go_ret
  exact ⟨by simp, (Ext.refl w).alloc _⟩
/-- Places in order, in a row of the call's own. -/
def nearL (f : Int × Int) (ps : List (Int × Int)) (n : Nat) (w0 : World) : Lex.Loose := ⟨fun v => ∃ A c, v = .slice A n c, fun v W => ∀ A c, v = .slice A n c → ∃ l, InOrder f ps n l ∧ New w0 W 3 1 A n c (nums .i64 (places l))⟩
theorem nearL_st {f : Int × Int} {ps : List (Int × Int)} {n : Nat} {w0 : World} : (nearL f ps n w0).St Base.Ext := fun _ _ _ h he A c e => by
  obtain ⟨l, h1, h2⟩ := h A c e
  exact ⟨l, h1, h2.extNew he⟩
theorem order_unique {f : Int × Int} {ps : List (Int × Int)} {n : Nat} {l m : List Nat} (h : InOrder f ps n l) (k : InOrder f ps n m) : l = m :=
  SiteN.sorted_unique l m h.1 k.1 fun x => by rw [h.2.1, k.2.1]
theorem bad_walk (x y : Int) (A : Option Addr) (n c : Nat) (ps : List (Int × Int)) (w : World) (h : Pts w A n ps) (hbad : ¬ ((near x ∧ near y) ∧ n ≤ 60 ∧ ∀ p ∈ ps, near p.1 ∧ near p.2)) :
    Calls Try.prog 14 #[P2 x y, .slice A n c] w fun e w' => e = .returned (.bool true) ∧ Ext w w' := by
  by_cases hf : near x ∧ near y
  · have HR := Lib.hid fun W (hE : Ext w W) => right_bad A n c ps W (h.ext hE) fun k => hbad ⟨hf, k⟩
    have HF := Lib.hid fun W => Ref09.right_yes x y W hf.1 hf.2
    clear hbad hf
    go_enter Try.func14, Try.ntmps14
    go_wp2_with fail
    refine (HF.out _).mono ?_
    rintro e w1 ⟨rfl, he1⟩
    have hE1 := (Ext.new w (.cells #[.int .i64 x, .int .i64 y] 29)).trans he1
    clear he1
    go_wp2_with fail
    refine (HR.out _ hE1).mono ?_
    rintro e w2 ⟨rfl, he2⟩
    have hE2 := hE1.trans he2
    clear hE1 he2
    go_wp2_with fail
    refine (awake_calls _).mono ?_
    rintro e w3 ⟨rfl, rfl⟩
    go_wp2_with fail
    go_ret
    exact ⟨rfl, hE2⟩
  · have HF := Lib.hid fun W => Ref09.right_no x y W hf
    clear hbad hf
    go_enter Try.func14, Try.ntmps14
    go_wp2_with fail
    refine (HF.out _).mono ?_
    rintro e w1 ⟨rfl, he1⟩
    have hE1 := (Ext.new w (.cells #[.int .i64 x, .int .i64 y] 29)).trans he1
    clear he1
    go_wp2_with fail
    refine (awake_calls _).mono ?_
    rintro e w3 ⟨rfl, rfl⟩
    go_wp2_with fail
    go_ret
    exact ⟨rfl, hE1⟩
set_option maxRecDepth 100000 in
set_option maxHeartbeats 1600000 in
theorem good_walk (x y : Int) (A : Option Addr) (n c : Nat) (ps : List (Int × Int)) (w : World) (h : Pts w A n ps) (hf : near x ∧ near y) (hn : n ≤ 60) (hr : ∀ p ∈ ps, near p.1 ∧ near p.2) :
    Calls Try.prog 14 #[P2 x y, .slice A n c] w fun e w' => e = .returned (.bool true) ∧ Ext w w' := by
  have hl := h.len
  have HR := Lib.hid hr
  clear hr
  have HPT : Hid (Pt (.complex .f64 (F x) (F y)) x y) := Lib.hid (pt_at hf.1 hf.2)
  have HAT := Lib.hid fun W => at_calls x y W hf.1 hf.2
  go_enter Try.func14, Try.ntmps14
  go_wp2_with fail
  refine (Ref09.right_yes x y _ hf.1 hf.2).mono ?_
  rintro e w1 ⟨rfl, he1⟩
  have hE1 := (Ext.new w (.cells #[.int .i64 x, .int .i64 y] 29)).trans he1
  have hF1 := he1.at_ (at_new w (.cells #[.int .i64 x, .int .i64 y] 29))
  clear he1
  go_wp2_with fail
  refine (right_yes A n c ps _ (h.ext hE1) hn HR.out).mono ?_
  rintro e w2 ⟨rfl, he2⟩
  have hE2 := hE1.trans he2
  have hF2 := he2.at_ hF1
  clear hE1 hF1 he2
  have c0 := blk_cell (i := 0) hF2 (Ext.refl _) rfl
  have c1 := blk_cell (i := 1) hF2 (Ext.refl _) rfl
  go_wp2_with fail
  refine (HAT.out _).mono ?_
  rintro e w3 ⟨rfl, rfl⟩
  go_wp2_with fail
  refine (to_calls A n c ps _ (h.ext hE2) hn HR.out).mono ?_
  rintro e w4 ⟨he4, A4, c4, rfl, ho4⟩
  have hE4 := hE2.trans he4
  have hF4 := he4.at_ hF2
  have HCX := Lib.hid (cx_of ho4)
  clear hE2 hF2 he4 ho4 c0 c1
  have d0 : ∀ W, Ext w4 W → W.cell? ⟨w.heap.size, 0, none⟩ = some (.int .i64 x) := fun W hW => blk_cell (i := 0) hF4 hW rfl
  have d1 : ∀ W, Ext w4 W → W.cell? ⟨w.heap.size, 1, none⟩ = some (.int .i64 y) := fun W hW => blk_cell (i := 1) hF4 hW rfl
  have HE4 := Lib.hid hE4
  clear hE4 hF4
  go_wp2_with fail
  have hs1 : (nearL (x, y) ps n w).St Base.Ext := nearL_st
  refine Lex.wp_region_u [0, 1, 2, 3, 4, 5, 6, 7] [] [(2, nearL (x, y) ps n w), (5, nearL (x, y) ps n w)] (by kernel_rfl) (by kernel_rfl) (by repeat (first | exact Lex.st_nil | refine Lex.st_cons (by first | exact Lex.nums_st | exact Lex.const_st | exact Lex.such_st | exact Lex.row_st | exact Lex.rowE_st | exact Lex.litR_st | assumption) ?_)) ?_; simp only [Lex.pick, List.getElem?_cons_succ, List.getElem?_cons_zero, List.map_cons, List.map_nil]
  clear hs1
  repeat (first | (refine Lex.lexU_skip (by rfl) ?_; simp only [Act.put, List.setIfInBounds_toArray, List.set_cons_zero, List.set_cons_succ]) | (refine Lex.lexU_still (by rfl) (by rfl) (by first | exact Base.Ext.refl | exact Lex.Fill.refl) ?_; apply Exists.intro; refine ⟨fun W hW => ?_, ?_⟩; (have hE := Lex.ext_of_cls hW.1; have hE2 := Lex.ext_drew hE; clear hW; go_simp; try with_reducible rfl); simp only [Act.put, List.setIfInBounds_toArray, List.set_cons_zero, List.set_cons_succ]))
  refine Lex.lexU_loose (by rfl) (by rfl) (fun W hW => ?_) ?_
  · have hE := Lex.ext_drew (Lex.ext_of_cls hW.1)
    clear hW
    go_simp
    refine (near_calls (x, y) A4 n c4 ps _ (HCX.out.ext hE) hl hn hf HR.out).mono ?_
    rintro e w5 ⟨he5, A5, c5, l, rfl, ho5, hio⟩
    exact ⟨_, rfl, ⟨A5, c5, rfl⟩, he5, fun _ _ e => by cases e; exact ⟨l, hio, ho5.mono fun i _ hi => Nat.le_trans (HE4.out.trans hE).size hi⟩⟩
  rintro v ⟨A5, c5, rfl⟩
  simp only [Act.put, List.setIfInBounds_toArray, List.set_cons_zero, List.set_cons_succ]
  repeat (first | (refine Lex.lexU_skip (by rfl) ?_; simp only [Act.put, List.setIfInBounds_toArray, List.set_cons_zero, List.set_cons_succ]) | (refine Lex.lexU_still (by rfl) (by rfl) (by first | exact Base.Ext.refl | exact Lex.Fill.refl) ?_; apply Exists.intro; refine ⟨fun W hW => ?_, ?_⟩; (have hE := Lex.ext_of_cls hW.1; have hE2 := Lex.ext_drew hE; clear hW; go_simp; try with_reducible rfl); simp only [Act.put, List.setIfInBounds_toArray, List.set_cons_zero, List.set_cons_succ]))
  refine Lex.lexU_loose (by rfl) (by rfl) (fun W hW => ?_) ?_
  · have hE := Lex.ext_drew (Lex.ext_of_cls hW.1)
    clear hW
    go_simp
    refine (rnear_calls (x, y) A n c ps _ (h.ext (HE4.out.trans hE)) hn hf HR.out).mono ?_
    rintro e w5 ⟨he5, A6, c6, l, rfl, ho6, hio⟩
    exact ⟨_, rfl, ⟨A6, c6, rfl⟩, he5, fun _ _ e => by cases e; exact ⟨l, hio, ho6.mono fun i _ hi => Nat.le_trans (HE4.out.trans hE).size hi⟩⟩
  rintro v ⟨A6, c6, rfl⟩
  simp only [Act.put, List.setIfInBounds_toArray, List.set_cons_zero, List.set_cons_succ]
  repeat (first | (refine Lex.lexU_skip (by rfl) ?_; simp only [Act.put, List.setIfInBounds_toArray, List.set_cons_zero, List.set_cons_succ]) | (refine Lex.lexU_still (by rfl) (by rfl) (by first | exact Base.Ext.refl | exact Lex.Fill.refl) ?_; apply Exists.intro; refine ⟨fun W hW => ?_, ?_⟩; (have hE := Lex.ext_of_cls hW.1; have hE2 := Lex.ext_drew hE; clear hW; go_simp; try with_reducible rfl); simp only [Act.put, List.setIfInBounds_toArray, List.set_cons_zero, List.set_cons_succ]))
  refine Lex.lexU_nil (fun W hW => ?_)
  obtain ⟨l, hl1, ho5⟩ := (hW.2 2).1.2 rfl _ _ rfl
  obtain ⟨l2, hl2, ho6⟩ := (hW.2 5).2 rfl _ _ rfl
  obtain rfl := order_unique hl1 hl2
  have hXW := Lex.ext_drew (Lex.ext_of_cls hW.1)
  have HEW := Lib.hid (HE4.out.trans hXW)
  have HO5 := Lib.hid ho5
  have HO6 := Lib.hid ho6
  have HCXW := Lib.hid (HCX.out.ext hXW)
  have hll := hl1.2.2
  clear hW d0 d1 hl2 ho5 ho6 hXW HCX
  refine Lex.onlyN_intro ?_
  have hS0 := at_new W (.cells #[.int .i64 0, .int .i64 0] 29)
  have HS0 := Lib.hid hS0
  clear hS0
  go_wp2_with fail
  obtain ⟨g, hg⟩ : ∃ g, W.heap.size = g := ⟨_, rfl⟩
  rw [hg]
  have HG := Lib.hid hg
  clear hg
  go_loopw [12] (fun iv wr => ∃ i : Nat, iv = .int .i64 i ∧ i ≤ n ∧ wr.heap[g]? = some (.cells #[.int .i64 (sx (ps.take i)), .int .i64 (sy (ps.take i))] 29 (0, 0)) ∧ Ext W wr) (fun iv _ => n - (intOf iv).toNat)
  case atStart => exact ⟨0, rfl, Nat.zero_le _, by rw [← HG.out]; exact HS0.out, Ext.new _ _⟩
  case round =>
    obtain ⟨i, rfl, hi, hS, hx⟩ := hrel
    by_cases hlt : i < n
    · obtain ⟨p, hp⟩ : ∃ p, ps[i]? = some p := ⟨_, List.getElem?_eq_getElem (by omega)⟩
      obtain ⟨ad, rfl, x0, x1⟩ := (h.ext (HEW.out.trans hx)).at_ i p hp
      obtain ⟨q, hq⟩ : ∃ q, l[i]? = some q := ⟨_, List.getElem?_eq_getElem (by omega)⟩
      have hnq : (nums .i64 (places l))[i]? = some (.int .i64 (q : Int)) := by simp [nums, places, hq]
      obtain ⟨ad5, h5, y5⟩ := own_cell (HO5.out.extNew hx) hnq
      obtain ⟨ad6, h6, y6⟩ := own_cell (HO6.out.extNew hx) hnq
      subst h5
      subst h6
      have iI : (i : Int) < n := by omega
      have i0 : (0 : Int) ≤ i := by omega
      have hbd := sum_bd (ps.take i) fun q hq => HR.out q (List.mem_of_mem_take hq)
      have htl : ((ps.take i).length : Int) = i := by rw [List.length_take]; omega
      rw [htl] at hbd
      obtain ⟨q1, q2, q3, q4⟩ := hbd
      obtain ⟨⟨m1, m2⟩, m3, m4⟩ := HR.out p (List.mem_of_getElem? hp)
      have HSX : Hid (sx (ps.take (i + 1)) = sx (ps.take i) + p.1) := Lib.hid (by rw [take_snoc hp, sx_snoc])
      have HSY : Hid (sy (ps.take (i + 1)) = sy (ps.take i) + p.2) := Lib.hid (by rw [take_snoc hp, sy_snoc])
      clear hp hq hnq htl
      generalize sx (ps.take i) = X at *
      generalize sy (ps.take i) = Y at *
      generalize p.1 = p1 at *
      generalize p.2 = p2 at *
      have w1 : IntKind.i64.wrap (X + p1) = X + p1 := IntWalk.i64_in _ (by omega)
      have w2 : IntKind.i64.wrap (Y + p2) = Y + p2 := IntWalk.i64_in _ (by omega)
      have s0 := blk_cell (i := 0) hS (Ext.refl _) rfl
      have s1 := blk_cell (i := 1) hS (Ext.refl _) rfl
      go_wp2_with fail
      go_quiet (fail)
      go_wp2_with fail
      have hXr : Ext wr (wr.drewN nq) := (Ext.refl wr).drewN nq
      have e0 : ∀ W', Ext (wr.drewN nq) W' → W'.cell? (ad.add (i * 2)) = some (.int .i64 p1) := fun W' hW => hW.cell_ (hXr.cell_ x0)
      have e1 : ∀ W', Ext (wr.drewN nq) W' → W'.cell? ⟨(ad.add (i * 2)).block, (ad.add (i * 2)).off + 1, none⟩ = some (.int .i64 p2) := fun W' hW => hW.cell_ (hXr.cell_ x1)
      have e2 : ∀ W', Ext (wr.drewN nq) W' → W'.cell? ⟨g, 0, none⟩ = some (.int .i64 X) := fun W' hW => hW.cell_ (hXr.cell_ s0)
      have e3 : ∀ W', Ext (wr.drewN nq) W' → W'.cell? ⟨g, 1, none⟩ = some (.int .i64 Y) := fun W' hW => hW.cell_ (hXr.cell_ s1)
      have HSr := Lib.hid (hXr.at_ hS)
      have HXx := Lib.hid (hx.trans hXr)
      clear x0 x1 y5 y6 s0 s1 hXr hS hx
      refine Lex.wp_region_u [0, 1, 2, 3, 4, 5, 6, 7, 8, 9, 10, 11, 12, 13, 14, 15, 16] [17] [] (by kernel_rfl) (by kernel_rfl) (by repeat (first | exact Lex.st_nil | refine Lex.st_cons (by first | exact Lex.nums_st | exact Lex.const_st | exact Lex.such_st | exact Lex.row_st | exact Lex.rowE_st | exact Lex.litR_st | assumption) ?_)) ?_; simp only [Lex.pick, List.getElem?_cons_succ, List.getElem?_cons_zero, List.map_cons, List.map_nil]
      repeat (first | (refine Lex.lexU_skip (by rfl) ?_; simp only [Act.put, List.setIfInBounds_toArray, List.set_cons_zero, List.set_cons_succ]) | (refine Lex.lexU_still (by rfl) (by rfl) (by first | exact Base.Ext.refl | exact Lex.Fill.refl) ?_; apply Exists.intro; refine ⟨fun W hW => ?_, ?_⟩; (have hE := Lex.ext_of_cls hW.1; have hE2 := Lex.ext_drew hE; clear hW; go_simp; try with_reducible rfl); simp only [Act.put, List.setIfInBounds_toArray, List.set_cons_zero, List.set_cons_succ]))
      refine Lex.lexU_nil (fun W hW => ?_)
      have hE := Lex.ext_drew (Lex.ext_of_cls hW.1)
      have hS2 := hE.at_ HSr.out
      have q0 := blk_cell (i := 0) hS2 (Ext.refl _) rfl
      have q1 := blk_cell (i := 1) hS2 (Ext.refl _) rfl
      have qf0 := Pack.free_of hS2 0
      have qf1 := Pack.free_of hS2 1
      have HFIN := Lib.hid (set_blk (i := 1) (set_blk (i := 0) hS2 (.int .i64 (X + p1))) (.int .i64 (Y + p2)))
      have HXF : Hid (Ext _ ((W.setCell ⟨g, 0, none⟩ (.int .i64 (X + p1))).setCell ⟨g, 1, none⟩ (.int .i64 (Y + p2)))) := Lib.hid ((HXx.out.trans hE).chg ((Chg.setCell (S := fun i => i = g) (Chg.refl _ W) (p := ⟨g, 0, none⟩) rfl _).setCell (p := ⟨g, 1, none⟩) rfl _) fun i hi => by rw [hi, ← HG.out]; exact Nat.le_refl _)
      clear hW e0 e1 e2 e3 hE hS2
      go_wp2_with fail
      try simp only [Lex.onlyN]
      go_wp2_with fail
      go_roundw
      case rel => exact ⟨i + 1, by go_num, by omega, by rw [HSX.out, HSY.out]; exact HFIN.out, HXF.out⟩
      case measure => simp [intOf]; omega
    · obtain rfl : i = n := by omega
      rw [List.take_of_length_le (by omega)] at hS
      have hbd := sum_bd ps HR.out
      have hil : (ps.length : Int) = i := by omega
      rw [hil] at hbd
      obtain ⟨q1, q2, q3, q4⟩ := hbd
      have HIS := Lib.hid fun v W (hv : Pt v (sx ps) (sy ps)) => is_big v (sx ps) (sy ps) W hv (by omega) (by omega)
      have hn60 := hn
      have HMID := Lib.hid fun W (hcx : Cx W A4 ps) => mid_calls A4 i c4 ps W hcx hl hn HR.out
      generalize sx ps = X at *
      generalize sy ps = Y at *
      have e2 : ∀ W', Ext wr W' → W'.cell? ⟨g, 0, none⟩ = some (.int .i64 X) := fun W' hW => blk_cell (i := 0) hS hW rfl
      have e3 : ∀ W', Ext wr W' → W'.cell? ⟨g, 1, none⟩ = some (.int .i64 Y) := fun W' hW => blk_cell (i := 1) hS hW rfl
      have HX2 := Lib.hid (HEW.out.trans hx)
      have HCX2 := Lib.hid (HCXW.out.ext hx)
      clear hS hx hil q1 q2 q3 q4
      go_wp2_with fail
      refine Lex.wp_region_u [0, 1, 2, 3, 4, 5, 6, 7, 8, 9, 10, 11, 12, 13, 14] [] [(1, .such fun v => ∃ b, v = .int .i64 b ∧ MinOf (fun i' k => k < i' ∧ i' < i) (dd ps) b), (3, .such fun v => ∃ b, v = .int .i64 b ∧ MinOf (fun i' k => i' < k ∧ k < i) (dd ps) b), (7, .such fun v => Pt v X Y), (9, .const (.bool true)), (12, .const (.bool true))] (by kernel_rfl) (by kernel_rfl) (by repeat (first | exact Lex.st_nil | refine Lex.st_cons (by first | exact Lex.nums_st | exact Lex.const_st | exact Lex.such_st | exact Lex.row_st | exact Lex.rowE_st | exact Lex.litR_st | assumption) ?_)) ?_; simp only [Lex.pick, List.getElem?_cons_succ, List.getElem?_cons_zero, List.map_cons, List.map_nil]
      repeat (first | (refine Lex.lexU_skip (by rfl) ?_; simp only [Act.put, List.setIfInBounds_toArray, List.set_cons_zero, List.set_cons_succ]) | (refine Lex.lexU_still (by rfl) (by rfl) (by first | exact Base.Ext.refl | exact Lex.Fill.refl) ?_; apply Exists.intro; refine ⟨fun W hW => ?_, ?_⟩; (have hE := Lex.ext_of_cls hW.1; have hE2 := Lex.ext_drew hE; clear hW; go_simp; try with_reducible rfl); simp only [Act.put, List.setIfInBounds_toArray, List.set_cons_zero, List.set_cons_succ]))
      refine Lex.lexU_loose (by rfl) (by rfl) (fun W hW => ?_) ?_
      · have hE := Lex.ext_drew (Lex.ext_of_cls hW.1)
        clear hW
        go_simp
        refine (spread_calls A4 i c4 ps _ (HCX2.out.ext hE) hl hn60 HR.out).mono ?_
        rintro e w5 ⟨he5, b, rfl, hb⟩
        exact ⟨_, rfl, ⟨b, rfl, hb⟩, he5, trivial⟩
      rintro v ⟨b, rfl, hb⟩
      have HB := Lib.hid hb
      clear hb
      simp only [Act.put, List.setIfInBounds_toArray, List.set_cons_zero, List.set_cons_succ]
      repeat (first | (refine Lex.lexU_skip (by rfl) ?_; simp only [Act.put, List.setIfInBounds_toArray, List.set_cons_zero, List.set_cons_succ]) | (refine Lex.lexU_still (by rfl) (by rfl) (by first | exact Base.Ext.refl | exact Lex.Fill.refl) ?_; apply Exists.intro; refine ⟨fun W hW => ?_, ?_⟩; (have hE := Lex.ext_of_cls hW.1; have hE2 := Lex.ext_drew hE; clear hW; go_simp; try with_reducible rfl); simp only [Act.put, List.setIfInBounds_toArray, List.set_cons_zero, List.set_cons_succ]))
      refine Lex.lexU_loose (by rfl) (by rfl) (fun W hW => ?_) ?_
      · have hE := Lex.ext_drew (Lex.ext_of_cls hW.1)
        clear hW
        go_simp
        refine (rspread_calls A i c ps _ (h.ext (HX2.out.trans hE)) hn60 HR.out).mono ?_
        rintro e w5 ⟨he5, b, rfl, hb⟩
        exact ⟨_, rfl, ⟨b, rfl, hb⟩, he5, trivial⟩
      rintro v ⟨b', rfl, hb'⟩
      obtain rfl : b = b' := HB.out.unique hb' (fun _ _ => Iff.rfl) (fun _ _ => dist_comm _ _)
      clear hb' HB
      simp only [Act.put, List.setIfInBounds_toArray, List.set_cons_zero, List.set_cons_succ]
      repeat (first | (refine Lex.lexU_skip (by rfl) ?_; simp only [Act.put, List.setIfInBounds_toArray, List.set_cons_zero, List.set_cons_succ]) | (refine Lex.lexU_still (by rfl) (by rfl) (by first | exact Base.Ext.refl | exact Lex.Fill.refl) ?_; apply Exists.intro; refine ⟨fun W hW => ?_, ?_⟩; (have hE := Lex.ext_of_cls hW.1; have hE2 := Lex.ext_drew hE; clear hW; go_simp; try with_reducible rfl); simp only [Act.put, List.setIfInBounds_toArray, List.set_cons_zero, List.set_cons_succ]))
      refine Lex.lexU_loose (by rfl) (by rfl) (fun W hW => ?_) ?_
      · have hE := Lex.ext_drew (Lex.ext_of_cls hW.1)
        clear hW
        go_simp
        refine (HMID.out _ (HCX2.out.ext hE)).mono ?_
        rintro e w5 ⟨he5, v, rfl, hv⟩
        exact ⟨_, rfl, hv, he5, trivial⟩
      rintro v hv
      have HV := Lib.hid hv
      clear hv
      simp only [Act.put, List.setIfInBounds_toArray, List.set_cons_zero, List.set_cons_succ]
      repeat (first | (refine Lex.lexU_skip (by rfl) ?_; simp only [Act.put, List.setIfInBounds_toArray, List.set_cons_zero, List.set_cons_succ]) | (refine Lex.lexU_still (by rfl) (by rfl) (by first | exact Base.Ext.refl | exact Lex.Fill.refl) ?_; apply Exists.intro; refine ⟨fun W hW => ?_, ?_⟩; (have hE := Lex.ext_of_cls hW.1; have hE2 := Lex.ext_drew hE; clear hW; go_simp; try with_reducible rfl); simp only [Act.put, List.setIfInBounds_toArray, List.set_cons_zero, List.set_cons_succ]))
      refine Lex.lexU_loose (by rfl) (by rfl) (fun W hW => ?_) ?_
      · have hE := Lex.ext_drew (Lex.ext_of_cls hW.1)
        clear hW
        go_simp
        refine (HIS.out v _ HV.out).mono ?_
        rintro e w5 ⟨rfl, he5⟩
        exact ⟨_, rfl, rfl, he5, trivial⟩
      rintro v' rfl
      simp only [Act.put, List.setIfInBounds_toArray, List.set_cons_zero, List.set_cons_succ]
      repeat (first | (refine Lex.lexU_skip (by rfl) ?_; simp only [Act.put, List.setIfInBounds_toArray, List.set_cons_zero, List.set_cons_succ]) | (refine Lex.lexU_still (by rfl) (by rfl) (by first | exact Base.Ext.refl | exact Lex.Fill.refl) ?_; apply Exists.intro; refine ⟨fun W hW => ?_, ?_⟩; (have hE := Lex.ext_of_cls hW.1; have hE2 := Lex.ext_drew hE; clear hW; go_simp; try with_reducible rfl); simp only [Act.put, List.setIfInBounds_toArray, List.set_cons_zero, List.set_cons_succ]))
      refine Lex.lexU_loose (by rfl) (by rfl) (fun W hW => ?_) ?_
      · have hE := Lex.ext_drew (Lex.ext_of_cls hW.1)
        clear hW
        go_simp
        refine (awake_calls _).mono ?_
        rintro e w5 ⟨rfl, rfl⟩
        exact ⟨_, rfl, rfl, Ext.refl _, trivial⟩
      rintro v' rfl
      simp only [Act.put, List.setIfInBounds_toArray, List.set_cons_zero, List.set_cons_succ]
      repeat (first | (refine Lex.lexU_skip (by rfl) ?_; simp only [Act.put, List.setIfInBounds_toArray, List.set_cons_zero, List.set_cons_succ]) | (refine Lex.lexU_still (by rfl) (by rfl) (by first | exact Base.Ext.refl | exact Lex.Fill.refl) ?_; apply Exists.intro; refine ⟨fun W hW => ?_, ?_⟩; (have hE := Lex.ext_of_cls hW.1; have hE2 := Lex.ext_drew hE; clear hW; go_simp; try with_reducible rfl); simp only [Act.put, List.setIfInBounds_toArray, List.set_cons_zero, List.set_cons_succ]))
      refine Lex.lexU_nil (fun W hW => ?_)
      have hE := Lex.ext_drew (Lex.ext_of_cls hW.1)
      clear hW
      refine Lex.onlyN_intro ?_
      go_wp2_with fail
      go_ret
      exact ⟨rfl, HX2.out.trans hE⟩
theorem nears_walk (x y : Int) (A : Option Addr) (n c : Nat) (l : List (Int × Int × Unit)) (w : World) (hl : (Sh.sl ptS).ok w (A, n, c, l)) :
    Calls Try.prog 14 #[P2 x y, .slice A n c] w fun e w' => e = .returned (.bool true) ∧ Ext w w' := by
  have h := pts_of hl
  by_cases hg : (near x ∧ near y) ∧ n ≤ 60 ∧ ∀ p ∈ (l.map fun x => (x.1, x.2.1)), near p.1 ∧ near p.2
  · exact good_walk x y A n c _ w h hg.1 hg.2.1 hg.2.2
  · exact bad_walk x y A n c _ w h hg
end Go.Proofs.Ytaohnialheccdaa.SiteNearsW
