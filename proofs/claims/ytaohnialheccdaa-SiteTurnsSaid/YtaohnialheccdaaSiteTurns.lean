import Derived.Test.YtaohnialheccdaaRef09
import Derived.Test.YtaohnialheccdaaStruct
namespace Go.Proofs.Ytaohnialheccdaa.SiteTurnsW
open Go.RowKit Base Site Ref09
theorem far_spin (k : Nat) (x y p q : Int) : ((spin k (x, y)).1 - (spin k (p, q)).1) * ((spin k (x, y)).1 - (spin k (p, q)).1) + ((spin k (x, y)).2 - (spin k (p, q)).2) * ((spin k (x, y)).2 - (spin k (p, q)).2) = (x - p) * (x - p) + (y - q) * (y - q) := by
  induction k with
  | zero => rfl
  | succ k ih =>
    simp only [spin]
    rw [← ih, show (-(spin k (x, y)).2 - -(spin k (p, q)).2) = -((spin k (x, y)).2 - (spin k (p, q)).2) by omega, Int.neg_mul_neg, Int.add_comm]
theorem spin_spin (m k : Nat) (z : Int × Int) : spin m (spin k z) = spin (m + k) z := by
  induction m with
  | zero => simp [spin]
  | succ m ih => rw [show m + 1 + k = (m + k) + 1 by omega]; simp only [spin]; rw [ih]
theorem spin_back (n : Int) (z : Int × Int) : spin ((4 - n.tmod 4) % 4).toNat (spin ((n.tmod 4) % 4).toNat z) = z := by
  rw [spin_spin]
  have h : ((4 - n.tmod 4) % 4).toNat + ((n.tmod 4) % 4).toNat = 0 ∨ ((4 - n.tmod 4) % 4).toNat + ((n.tmod 4) % 4).toNat = 4 := by omega
  rcases h with h | h
  · rw [h]; rfl
  · rw [h]; simp [spin]
theorem boxes {w w1 : World} {x y p q : Int} {T U : TypeId} (h : Ext ((w.alloc (Obj.cells #[.int .i64 x, .int .i64 y] T)).alloc (Obj.cells #[.int .i64 p, .int .i64 q] U)) w1) :
    w1.cell? ⟨w.heap.size, 0, none⟩ = some (.int .i64 x) ∧ w1.cell? ⟨w.heap.size, 1, none⟩ = some (.int .i64 y) ∧ w1.cell? ⟨w.heap.size + 1, 0, none⟩ = some (.int .i64 p) ∧ w1.cell? ⟨w.heap.size + 1, 1, none⟩ = some (.int .i64 q) := by
  have hs : ∀ (W : World) (o : Obj), (W.alloc o).heap.size = W.heap.size + 1 := fun W o => by show (W.heap.push o).size = _; simp
  have k0 := at_new w (Obj.cells #[.int .i64 x, .int .i64 y] T)
  have k1 := at_new (w.alloc (Obj.cells #[.int .i64 x, .int .i64 y] T)) (Obj.cells #[.int .i64 p, .int .i64 q] U)
  rw [hs] at k1
  have h0 := ((Ext.refl (w.alloc (Obj.cells #[.int .i64 x, .int .i64 y] T))).alloc (Obj.cells #[.int .i64 p, .int .i64 q] U)).trans h
  exact ⟨Step.blk_cell k0 h0 rfl, Step.blk_cell k0 h0 rfl, Step.blk_cell k1 h rfl, Step.blk_cell k1 h rfl⟩
set_option maxHeartbeats 2000000 in
set_option maxRecDepth 100000 in
theorem walk (x y p q n : Int) (w : World) (hn : (Lit.int .i64 n).wf = true) :
    Calls Try.prog 5 #[P2 x y, P2 p q, .int .i64 n] w fun e w' => e = .returned (.bool true) ∧ Ext w w' := by
  by_cases h1 : near x ∧ near y
  · by_cases h2 : near p ∧ near q
    · have R1 := Lib.hid fun W => right_yes x y W h1.1 h1.2
      have R2 := Lib.hid fun W => right_yes p q W h2.1 h2.2
      have A1 := Lib.hid fun W => at_calls x y W h1.1 h1.2
      have A2 := Lib.hid fun W => at_calls p q W h2.1 h2.2
      have H1 := Lib.hid h1
      have H2 := Lib.hid h2
      have P1 := Lib.hid (pt_at h1.1 h1.2)
      have P2 := Lib.hid (pt_at h2.1 h2.2)
      have HN := Lib.hid hn
      clear h1 h2 hn
      generalize F x = fx at *
      generalize F y = fy at *
      generalize F p = fp at *
      generalize F q = fq at *
      go_enter Try.func5, Try.ntmps5
      go_wp2_with fail
      refine (R1.out _).mono ?_
      rintro e w1 ⟨rfl, x1⟩
      obtain ⟨b0, b1, b2, b3⟩ := boxes x1
      have X1 := Lib.hid (((Ext.refl w).alloc _).alloc _ |>.trans x1)
      clear x1
      go_wp2_with fail
      refine (R2.out _).mono ?_
      rintro e w2 ⟨rfl, x2⟩
      replace b0 := x2.cell_ b0
      replace b1 := x2.cell_ b1
      replace b2 := x2.cell_ b2
      replace b3 := x2.cell_ b3
      have X2 := Lib.hid (X1.out.trans x2)
      clear x2
      go_wp2_with fail
      refine (A1.out _).mono ?_
      rintro e w' ⟨rfl, rfl⟩
      go_wp2_with fail
      refine (A2.out _).mono ?_
      rintro e w' ⟨rfl, rfl⟩
      go_wp2_with fail
      refine (Site.turned_calls _ x y n _ P1.out H1.out.1 H1.out.2 HN.out).mono ?_
      rintro e w' ⟨u1, rfl, pu1, rfl⟩
      have PU1 := Lib.hid pu1
      clear pu1
      go_wp2_with fail
      refine (Site.turned_calls _ p q n _ P2.out H2.out.1 H2.out.2 HN.out).mono ?_
      rintro e w' ⟨u2, rfl, pu2, rfl⟩
      have PU2 := Lib.hid pu2
      clear pu2
      go_wp2_with fail
      have N1 := Lib.hid (spin_near (n % 4).toNat H1.out.1 H1.out.2)
      have N2 := Lib.hid (spin_near (n % 4).toNat H2.out.1 H2.out.2)
      refine (Site.far_calls u1 u2 _ _ _ _ _ PU1.out PU2.out N1.out.1 N1.out.2 N2.out.1 N2.out.2).mono ?_
      rintro e w' ⟨rfl, rfl⟩
      rw [far_spin]
      go_wp2_with fail
      refine (Site.far_calls _ _ x y p q _ P1.out P2.out H1.out.1 H1.out.2 H2.out.1 H2.out.2).mono ?_
      rintro e w' ⟨rfl, rfl⟩
      go_wp2_with fail
      refine (Site.turned_calls _ x y (n.tmod 4) _ P1.out H1.out.1 H1.out.2 (by have := Ref09.tmod4 n; simp [Lit.wf, IntKind.min, IntKind.max, IntKind.bits, IntKind.signed]; omega)).mono ?_
      rintro e w' ⟨u3, rfl, pu3, rfl⟩
      have PU3 := Lib.hid pu3
      clear pu3
      have N3 := Lib.hid (spin_near (n.tmod 4 % 4).toNat H1.out.1 H1.out.2)
      go_wp2_with fail
      have hw : wrap64 (4 - n.tmod 4) = 4 - n.tmod 4 := wrap_in _ (by have := Ref09.tmod4 n; omega)
      rw [hw]
      refine (Site.turned_calls u3 _ _ (4 - n.tmod 4) _ PU3.out N3.out.1 N3.out.2 (by have := Ref09.tmod4 n; simp [Lit.wf, IntKind.min, IntKind.max, IntKind.bits, IntKind.signed]; omega)).mono ?_
      rintro e w' ⟨u4, rfl, pu4, rfl⟩
      have hb := spin_back n (x, y)
      rw [hb] at pu4
      obtain ⟨a4, b4, rfl, i1, i2⟩ := pu4
      have hq := eq_is 31 (u := .complex .f64 a4 b4) ⟨a4, b4, rfl, i1, i2⟩ P1.out Try.prog w2
      simp only [decide_true, Bool.and_self] at hq
      have HW := Lib.hid hw
      clear i1 i2 hb hw
      go_wp2_with fail
      refine (awake_calls _).mono ?_
      rintro e w' ⟨rfl, rfl⟩
      go_wp2_with fail
      go_ret
      exact ⟨rfl, X2.out⟩
    · have R1 := Lib.hid fun W => right_yes x y W h1.1 h1.2
      have R2 := Lib.hid fun W => right_no p q W h2
      clear h1 h2 hn
      go_enter Try.func5, Try.ntmps5
      go_wp2_with fail
      refine (R1.out _).mono ?_
      rintro e w1 ⟨rfl, x1⟩
      obtain ⟨b0, b1, b2, b3⟩ := boxes x1
      have X1 := Lib.hid (((Ext.refl w).alloc _).alloc _ |>.trans x1)
      clear x1
      go_wp2_with fail
      refine (R2.out _).mono ?_
      rintro e w2 ⟨rfl, x2⟩
      have X2 := Lib.hid (X1.out.trans x2)
      clear x2
      go_wp2_with fail
      refine (awake_calls _).mono ?_
      rintro e w' ⟨rfl, rfl⟩
      go_wp2_with fail
      go_ret
      exact ⟨rfl, X2.out⟩
  · have R1 := Lib.hid fun W => right_no x y W h1
    clear h1 hn
    go_enter Try.func5, Try.ntmps5
    go_wp2_with fail
    refine (R1.out _).mono ?_
    rintro e w1 ⟨rfl, x1⟩
    have X1 := Lib.hid (((Ext.refl w).alloc _).alloc _ |>.trans x1)
    clear x1
    go_wp2_with fail
    refine (awake_calls _).mono ?_
    rintro e w' ⟨rfl, rfl⟩
    go_wp2_with fail
    go_ret
    exact ⟨rfl, X1.out⟩
end Go.Proofs.Ytaohnialheccdaa.SiteTurnsW
