import Derived.Test.YtaohnialheccdaaSite
import Derived.Test.YtaohnialheccdaaStep
namespace Go.Proofs.Ytaohnialheccdaa.Ref09
open Go.RowKit Base Site
abbrev P2 (x y : Int) : Value := .agg #[.int .i64 x, .int .i64 y]
set_option maxRecDepth 100000 in
theorem right_yes (x y : Int) (w : World) (h1 : near x) (h2 : near y) : Calls Try.prog 20 #[P2 x y] w fun e w' => e = .returned (.bool true) ∧ Ext w w' := by
  obtain ⟨h10, h11⟩ := h1
  obtain ⟨h20, h21⟩ := h2
  go_enter Try.func20, Try.ntmps20
  go_wp2_with fail
  go_ret
  exact ⟨rfl, (Ext.refl w).alloc _⟩
set_option maxRecDepth 100000 in
theorem right_no (x y : Int) (w : World) (h : ¬ (near x ∧ near y)) : Calls Try.prog 20 #[P2 x y] w fun e w' => e = .returned (.bool false) ∧ Ext w w' := by
  have h : x < -1048576 ∨ (-1048576 ≤ x ∧ 1048576 < x) ∨ (-1048576 ≤ x ∧ x ≤ 1048576 ∧ y < -1048576) ∨ (-1048576 ≤ x ∧ x ≤ 1048576 ∧ -1048576 ≤ y ∧ 1048576 < y) := by unfold near at h; omega
  rcases h with h | ⟨h, h2⟩ | ⟨h, h2, h3⟩ | ⟨h, h2, h3, h4⟩
  all_goals
    go_enter Try.func20, Try.ntmps20
    go_wp2_with fail
    all_goals go_ret
    all_goals first
      | exact ⟨rfl, (Ext.refl w).alloc _⟩
      | (refine ⟨?_, (Ext.refl w).alloc _⟩; show Ending.returned (Value.bool (decide (y ≤ 1048576))) = _; rw [decide_eq_false (by omega)])
set_option maxRecDepth 100000 in
theorem far_calls (x y p q : Int) (w : World) (h1 : near x) (h2 : near y) (h3 : near p) (h4 : near q) : Calls Try.prog 24 #[P2 x y, P2 p q] w fun e w' => e = .returned (.int .i64 ((x - p) * (x - p) + (y - q) * (y - q))) ∧ Ext w w' := by
  unfold near at h1 h2 h3 h4
  have s1 := sq (x - p) (by omega) (by omega)
  have s2 := sq (y - q) (by omega) (by omega)
  go_enter Try.func24, Try.ntmps24
  go_wp2_with fail
  go_ret
  exact ⟨rfl, ((Ext.refl w).alloc _).alloc _⟩
set_option maxRecDepth 100000 in
theorem is_yes (v : Value) (x y : Int) (w : World) (h : Pt v x y) (h1 : near x) (h2 : near y) : Calls Try.prog 22 #[v, P2 x y] w fun e w' => e = .returned (.bool true) ∧ Ext w w' := by
  obtain ⟨a, b, rfl, ha, hb⟩ := h
  unfold near at h1 h2
  have HP := Lib.hid fun W => parts_calls a b x y W (Float.toInt_is ha (by omega) (by omega)) (Float.toInt_is hb (by omega) (by omega))
  clear ha hb
  go_enter Try.func22, Try.ntmps22
  go_wp2_with fail
  refine (HP.out _).mono ?_
  rintro e w' ⟨rfl, rfl⟩
  go_wp2_with fail
  go_ret
  exact ⟨by simp, (Ext.refl w).alloc _⟩
theorem tmod4 (n : Int) : n.tmod 4 = n % 4 ∨ n.tmod 4 = n % 4 - 4 := by
  rcases Int.le_total 0 n with h | h
  · left; exact Int.tmod_eq_emod_of_nonneg h
  · have h1 : n.tmod 4 = -((-n) % 4) := by
      rw [← Int.tmod_eq_emod_of_nonneg (by omega : 0 ≤ -n), Int.neg_tmod, Int.neg_neg]
    omega
set_option maxHeartbeats 2000000 in
set_option maxRecDepth 100000 in
theorem turned_calls (x y n : Int) (w : World) (h1 : near x) (h2 : near y) : Calls Try.prog 26 #[P2 x y, .int .i64 n] w fun e w' => e = .returned (P2 (spin ((n % 4).toNat) (x, y)).1 (spin ((n % 4).toNat) (x, y)).2) ∧ Ext w w' := by
  unfold near at h1 h2
  have h0 : (n.tmod 4 = -3 ∧ (n % 4).toNat = 1) ∨ (n.tmod 4 = -2 ∧ (n % 4).toNat = 2) ∨ (n.tmod 4 = -1 ∧ (n % 4).toNat = 3) ∨ (n.tmod 4 = -4 ∧ (n % 4).toNat = 0) ∨ (n.tmod 4 = 0 ∧ (n % 4).toNat = 0) ∨ (n.tmod 4 = 1 ∧ (n % 4).toNat = 1) ∨ (n.tmod 4 = 2 ∧ (n % 4).toNat = 2) ∨ (n.tmod 4 = 3 ∧ (n % 4).toNat = 3) := by
    have := tmod4 n
    omega
  rcases h0 with ⟨ht, hk⟩ | ⟨ht, hk⟩ | ⟨ht, hk⟩ | ⟨ht, hk⟩ | ⟨ht, hk⟩ | ⟨ht, hk⟩ | ⟨ht, hk⟩ | ⟨ht, hk⟩
  all_goals
    have HK := Lib.hid hk
    clear hk
    go_enter Try.func26, Try.ntmps26
    go_wp2_with fail
    exact bodyPost_ret (v := P2 (spin ((n % 4).toNat) (x, y)).1 (spin ((n % 4).toNat) (x, y)).2) (by rw [HK.out]; simp [spin, results, Try.results26, go_sem]) rfl ⟨rfl, ((Ext.refl w).alloc _).alloc _⟩
end Go.Proofs.Ytaohnialheccdaa.Ref09
