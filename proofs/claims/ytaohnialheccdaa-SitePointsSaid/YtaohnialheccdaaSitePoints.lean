import Derived.Test.YtaohnialheccdaaSiteTurns
namespace Go.Proofs.Ytaohnialheccdaa.SitePointsW
open Go.RowKit Base Site Ref09 SiteTurnsW
theorem pt_null : Pt (.complex .f64 0 0) 0 0 := ⟨0, 0, rfl, null_is, null_is⟩
set_option maxHeartbeats 4000000 in
set_option maxRecDepth 100000 in
theorem walk (x y p q n : Int) (w : World) (hn : (Lit.int .i64 n).wf = true) :
    Calls Try.prog 4 #[P2 x y, P2 p q, .int .i64 n] w fun e w' => e = .returned (.bool true) ∧ Ext w w' := by
  by_cases h1 : near x ∧ near y
  · have R1 := Lib.hid fun W => right_yes x y W h1.1 h1.2
    have A1 := Lib.hid fun W => at_calls x y W h1.1 h1.2
    have H1 := Lib.hid h1
    have P1 := Lib.hid (pt_at h1.1 h1.2)
    have I1 := Lib.hid fun W => is_yes _ x y W (pt_at h1.1 h1.2) h1.1 h1.2
    have HN := Lib.hid hn
    have T1 := Lib.hid fun W => Ref09.turned_calls x y n W h1.1 h1.2
    by_cases h2 : near p ∧ near q
    · have A2 := Lib.hid fun W => at_calls p q W h2.1 h2.2
      have H2 := Lib.hid h2
      have P2 := Lib.hid (pt_at h2.1 h2.2)
      have F1 := Lib.hid fun W => Site.far_calls _ _ x y p q W (pt_at h1.1 h1.2) (pt_at h2.1 h2.2) h1.1 h1.2 h2.1 h2.2
      have F2 := Lib.hid fun W => Ref09.far_calls x y p q W h1.1 h1.2 h2.1 h2.2
      clear h1 h2 hn
      generalize F x = fx at *
      generalize F y = fy at *
      generalize F p = fp at *
      generalize F q = fq at *
      go_enter Try.func4, Try.ntmps4
      go_wp2_with fail
      refine (A1.out _).mono ?_
      rintro e w' ⟨rfl, rfl⟩
      go_wp2_with fail
      refine (R1.out _).mono ?_
      rintro e w1 ⟨rfl, x1⟩
      obtain ⟨b0, b1, b2, b3⟩ := boxes x1
      have X1 := Lib.hid (((Ext.refl w).alloc _).alloc _ |>.trans x1)
      clear x1
      go_wp2_with fail
      refine (I1.out _).mono ?_
      rintro e w2 ⟨rfl, x2⟩
      replace b0 := x2.cell_ b0
      replace b1 := x2.cell_ b1
      replace b2 := x2.cell_ b2
      replace b3 := x2.cell_ b3
      have X2 := Lib.hid (X1.out.trans x2)
      clear x2
      go_wp2_with fail
      refine (A2.out _).mono ?_
      rintro e w' ⟨rfl, rfl⟩
      go_wp2_with fail
      have d0 : ∀ W, Ext w2.drew W → W.cell? ⟨w.heap.size, 0, none⟩ = some (.int .i64 x) := fun W hW => (Step.drew_ext hW).cell_ b0
      have d1 : ∀ W, Ext w2.drew W → W.cell? ⟨w.heap.size, 1, none⟩ = some (.int .i64 y) := fun W hW => (Step.drew_ext hW).cell_ b1
      have d2 : ∀ W, Ext w2.drew W → W.cell? ⟨w.heap.size + 1, 0, none⟩ = some (.int .i64 p) := fun W hW => (Step.drew_ext hW).cell_ b2
      have d3 : ∀ W, Ext w2.drew W → W.cell? ⟨w.heap.size + 1, 1, none⟩ = some (.int .i64 q) := fun W hW => (Step.drew_ext hW).cell_ b3
      clear b0 b1 b2 b3
      have N1 := Lib.hid (spin_near (n % 4).toNat H1.out.1 H1.out.2)
      have T0 := Lib.hid fun W => Site.turned_calls _ x y n W P1.out H1.out.1 H1.out.2 HN.out
      generalize (x - p) * (x - p) + (y - q) * (y - q) = D at *
      generalize (spin (n % 4).toNat (x, y)).1 = X at *
      generalize (spin (n % 4).toNat (x, y)).2 = Y at *
      refine Lex.wp_region_ext [(2, .const (.int .i64 D)), (5, .const (.int .i64 D)), (10, .such (fun v => Pt v X Y)), (13, .const (.agg #[.int .i64 X, .int .i64 Y])), (14, .const (.bool true)), (17, .const (.bool true))] (by kernel_rfl) (by kernel_rfl) (by repeat (first | exact Lex.st_nil | refine Lex.st_cons (by first | exact Lex.nums_st | exact Lex.const_st | exact Lex.such_st | exact Lex.row_st) ?_)) ?_
      repeat (first | (refine Lex.lex_skip (by rfl) ?_; simp only [Act.put, List.setIfInBounds_toArray, List.set_cons_zero, List.set_cons_succ]) | (refine Lex.lex_still (by rfl) (by rfl) ?_; apply Exists.intro; refine ⟨fun W hW => ?_, ?_⟩; (have hE := hW.1; have hE2 := Base.Ext.trans (Base.Ext.drew (Base.Ext.refl _)) hW.1; go_simp; try with_reducible rfl); simp only [Act.put, List.setIfInBounds_toArray, List.set_cons_zero, List.set_cons_succ]))
      refine Lex.lex_loose (by rfl) (by rfl) (fun W hW => ?_) ?_
      · go_simp
        refine (F1.out _).mono ?_
        rintro e w' ⟨rfl, rfl⟩
        exact ⟨_, rfl, rfl, Ext.refl _, trivial⟩
      rintro v rfl
      simp only [Act.put, List.setIfInBounds_toArray, List.set_cons_zero, List.set_cons_succ]
      repeat (first | (refine Lex.lex_skip (by rfl) ?_; simp only [Act.put, List.setIfInBounds_toArray, List.set_cons_zero, List.set_cons_succ]) | (refine Lex.lex_still (by rfl) (by rfl) ?_; apply Exists.intro; refine ⟨fun W hW => ?_, ?_⟩; (have hE := hW.1; have hE2 := Base.Ext.trans (Base.Ext.drew (Base.Ext.refl _)) hW.1; go_simp; try with_reducible rfl); simp only [Act.put, List.setIfInBounds_toArray, List.set_cons_zero, List.set_cons_succ]))
      refine Lex.lex_loose (by rfl) (by rfl) (fun W hW => ?_) ?_
      · go_simp
        refine (F2.out _).mono ?_
        rintro e w' ⟨rfl, he⟩
        exact ⟨_, rfl, rfl, he, trivial⟩
      rintro v rfl
      simp only [Act.put, List.setIfInBounds_toArray, List.set_cons_zero, List.set_cons_succ]
      repeat (first | (refine Lex.lex_skip (by rfl) ?_; simp only [Act.put, List.setIfInBounds_toArray, List.set_cons_zero, List.set_cons_succ]) | (refine Lex.lex_still (by rfl) (by rfl) ?_; apply Exists.intro; refine ⟨fun W hW => ?_, ?_⟩; (have hE := hW.1; have hE2 := Base.Ext.trans (Base.Ext.drew (Base.Ext.refl _)) hW.1; go_simp; try with_reducible rfl); simp only [Act.put, List.setIfInBounds_toArray, List.set_cons_zero, List.set_cons_succ]))
      refine Lex.lex_loose (by rfl) (by rfl) (fun W hW => ?_) ?_
      · go_simp
        refine (T0.out _).mono ?_
        rintro e w' ⟨v, rfl, hv, rfl⟩
        exact ⟨_, rfl, hv, Ext.refl _, trivial⟩
      rintro v hv
      have I2 := Lib.hid fun W => is_yes v X Y W hv N1.out.1 N1.out.2
      clear hv
      simp only [Act.put, List.setIfInBounds_toArray, List.set_cons_zero, List.set_cons_succ]
      repeat (first | (refine Lex.lex_skip (by rfl) ?_; simp only [Act.put, List.setIfInBounds_toArray, List.set_cons_zero, List.set_cons_succ]) | (refine Lex.lex_still (by rfl) (by rfl) ?_; apply Exists.intro; refine ⟨fun W hW => ?_, ?_⟩; (have hE := hW.1; have hE2 := Base.Ext.trans (Base.Ext.drew (Base.Ext.refl _)) hW.1; go_simp; try with_reducible rfl); simp only [Act.put, List.setIfInBounds_toArray, List.set_cons_zero, List.set_cons_succ]))
      refine Lex.lex_loose (by rfl) (by rfl) (fun W hW => ?_) ?_
      · go_simp
        refine (T1.out _).mono ?_
        rintro e w' ⟨rfl, he⟩
        exact ⟨_, rfl, rfl, he, trivial⟩
      rintro u rfl
      simp only [Act.put, List.setIfInBounds_toArray, List.set_cons_zero, List.set_cons_succ]
      repeat (first | (refine Lex.lex_skip (by rfl) ?_; simp only [Act.put, List.setIfInBounds_toArray, List.set_cons_zero, List.set_cons_succ]) | (refine Lex.lex_still (by rfl) (by rfl) ?_; apply Exists.intro; refine ⟨fun W hW => ?_, ?_⟩; (have hE := hW.1; have hE2 := Base.Ext.trans (Base.Ext.drew (Base.Ext.refl _)) hW.1; go_simp; try with_reducible rfl); simp only [Act.put, List.setIfInBounds_toArray, List.set_cons_zero, List.set_cons_succ]))
      refine Lex.lex_loose (by rfl) (by rfl) (fun W hW => ?_) ?_
      · go_simp
        refine (I2.out _).mono ?_
        rintro e w' ⟨rfl, he⟩
        exact ⟨_, rfl, rfl, he, trivial⟩
      rintro u rfl
      simp only [Act.put, List.setIfInBounds_toArray, List.set_cons_zero, List.set_cons_succ]
      repeat (first | (refine Lex.lex_skip (by rfl) ?_; simp only [Act.put, List.setIfInBounds_toArray, List.set_cons_zero, List.set_cons_succ]) | (refine Lex.lex_still (by rfl) (by rfl) ?_; apply Exists.intro; refine ⟨fun W hW => ?_, ?_⟩; (have hE := hW.1; have hE2 := Base.Ext.trans (Base.Ext.drew (Base.Ext.refl _)) hW.1; go_simp; try with_reducible rfl); simp only [Act.put, List.setIfInBounds_toArray, List.set_cons_zero, List.set_cons_succ]))
      refine Lex.lex_loose (by rfl) (by rfl) (fun W hW => ?_) ?_
      · go_simp
        refine (awake_calls _).mono ?_
        rintro e w' ⟨rfl, rfl⟩
        exact ⟨_, rfl, rfl, Ext.refl _, trivial⟩
      rintro u rfl
      simp only [Act.put, List.setIfInBounds_toArray, List.set_cons_zero, List.set_cons_succ]
      repeat (first | (refine Lex.lex_skip (by rfl) ?_; simp only [Act.put, List.setIfInBounds_toArray, List.set_cons_zero, List.set_cons_succ]) | (refine Lex.lex_still (by rfl) (by rfl) ?_; apply Exists.intro; refine ⟨fun W hW => ?_, ?_⟩; (have hE := hW.1; have hE2 := Base.Ext.trans (Base.Ext.drew (Base.Ext.refl _)) hW.1; go_simp; try with_reducible rfl); simp only [Act.put, List.setIfInBounds_toArray, List.set_cons_zero, List.set_cons_succ]))
      refine Lex.lex_nil (fun W hW => ?_)
      have X9 := Lib.hid (X2.out.trans (Step.drew_ext hW.1))
      clear hW d0 d1 d2 d3
      go_wp2_with fail
      go_ret
      exact ⟨rfl, X9.out⟩
    · have A2 := Lib.hid fun W => at_none p q W h2
      have R2 := Lib.hid fun W => right_no p q W h2
      clear h1 h2 hn
      generalize F x = fx at *
      generalize F y = fy at *
      go_enter Try.func4, Try.ntmps4
      go_wp2_with fail
      refine (A1.out _).mono ?_
      rintro e w' ⟨rfl, rfl⟩
      go_wp2_with fail
      refine (R1.out _).mono ?_
      rintro e w1 ⟨rfl, x1⟩
      obtain ⟨b0, b1, b2, b3⟩ := boxes x1
      have X1 := Lib.hid (((Ext.refl w).alloc _).alloc _ |>.trans x1)
      clear x1
      go_wp2_with fail
      refine (I1.out _).mono ?_
      rintro e w2 ⟨rfl, x2⟩
      replace b0 := x2.cell_ b0
      replace b1 := x2.cell_ b1
      replace b2 := x2.cell_ b2
      replace b3 := x2.cell_ b3
      have X2 := Lib.hid (X1.out.trans x2)
      clear x2
      go_wp2_with fail
      refine (A2.out _).mono ?_
      rintro e w' ⟨rfl, rfl⟩
      go_wp2_with fail
      refine (R2.out _).mono ?_
      rintro e w3 ⟨rfl, x3⟩
      have X3 := Lib.hid (X2.out.trans x3)
      clear x3
      go_wp2_with fail
      refine (awake_calls _).mono ?_
      rintro e w' ⟨rfl, rfl⟩
      go_wp2_with fail
      go_ret
      exact ⟨rfl, X3.out⟩
  · have R1 := Lib.hid fun W => right_no x y W h1
    have A1 := Lib.hid fun W => at_none x y W h1
    have hq := fun W => eq_is 31 pt_null pt_null Try.prog W
    simp only [decide_true, Bool.and_self] at hq
    clear h1 hn
    go_enter Try.func4, Try.ntmps4
    go_wp2_with fail
    refine (A1.out _).mono ?_
    rintro e w' ⟨rfl, rfl⟩
    go_wp2_with fail
    refine (R1.out _).mono ?_
    rintro e w1 ⟨rfl, x1⟩
    have X1 := Lib.hid (((Ext.refl w).alloc _).alloc _ |>.trans x1)
    clear x1
    go_wp2_with fail
    refine (awake_calls _).mono ?_
    rintro e w' ⟨rfl, rfl⟩
    go_wp2_with fail
    go_ret
    exact ⟨rfl, X1.out⟩
end Go.Proofs.Ytaohnialheccdaa.SitePointsW
