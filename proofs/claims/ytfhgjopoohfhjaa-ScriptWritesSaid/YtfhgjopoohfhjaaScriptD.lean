/- The script's functions, walked: steps. -/
import Derived.Test.YtfhgjopoohfhjaaScriptC
namespace Go.Proofs.Ytfhgjopoohfhjaa.Script
open Go.RowKit Base Step Vec
open ScriptP (L nm nameI kindOf Kind form formI digits digitsI numP numR chr cut St)
/-- A step's value. -/
abbrev stV (s : St) (D : Option Addr) (n c : Nat) : Value := .agg #[.int .i64 s.kind, .string (S s.name), .slice D n c, .int .i64 s.node, .int .i64 s.a, .int .i64 s.b, .int .u8 s.bits]
def same (a b : St) : Bool := decide (a.kind = b.kind) && decide (a.name = b.name) && decide (a.data = b.data) && decide (a.node = b.node) && decide (a.a = b.a) && decide (a.b = b.b) && decide (a.bits = b.bits)
set_option maxRecDepth 100000 in
set_option maxHeartbeats 4000000 in
theorem same_calls (a b : St) (D1 : Option Addr) (n1 c1 : Nat) (D2 : Option Addr) (n2 c2 : Nat) (w : World) (h1 : Rd w .u8 D1 n1 (ints a.data)) (h2 : Rd w .u8 D2 n2 (ints b.data)) :
    Calls Try.prog 32 #[stV a D1 n1 c1, stV b D2 n2 c2] w fun e w' => e = .returned (.bool (same a b)) ∧ Ext w w' := by
  obtain ⟨k1, m1, d1, x1, y1, z1, b1⟩ := a
  obtain ⟨k2, m2, d2, x2, y2, z2, b2⟩ := b
  have hE := (Ext.new w (.cells #[.int .i64 k1, .string (S m1), .slice D1 n1 c1, .int .i64 x1, .int .i64 y1, .int .i64 z1, .int .u8 b1] 46)).alloc (.cells #[.int .i64 k2, .string (S m2), .slice D2 n2 c2, .int .i64 x2, .int .i64 y2, .int .i64 z2, .int .u8 b2] 46)
  have s1 := run_string (P := Try.prog) 22 9 5 c1 Try.underlying22 Try.underlying5 Try.underlying9 (h1.ext hE)
  have s2 := run_string (P := Try.prog) 22 9 5 c2 Try.underlying22 Try.underlying5 Try.underlying9 (h2.ext hE)
  rw [str_ints] at s1 s2
  have HE := Lib.hid hE
  clear hE h1 h2
  dsimp only [stV] at *
  by_cases hc : ¬ k1 = k2
  · have q : (k1 == k2) = false := beq_eq_false_iff_ne.2 hc
    have HF := Lib.hid hc
    clear hc
    go_enter Try.func32, Try.ntmps32
    go_wp2
    go_ret
    exact ⟨ret_bool (by simp [same, HF.out]), HE.out⟩
  replace hc := Classical.not_not.1 hc
  subst hc
  by_cases hc : ¬ m1 = m2
  · have q : (m1 == m2) = false := beq_eq_false_iff_ne.2 hc
    have HF := Lib.hid hc
    clear hc
    go_enter Try.func32, Try.ntmps32
    go_wp2
    go_ret
    exact ⟨ret_bool (by simp [same, HF.out]), HE.out⟩
  replace hc := Classical.not_not.1 hc
  subst hc
  by_cases hc : ¬ d1 = d2
  · have q : (d1 == d2) = false := beq_eq_false_iff_ne.2 hc
    have HF := Lib.hid hc
    clear hc
    go_enter Try.func32, Try.ntmps32
    go_wp2
    go_ret
    exact ⟨ret_bool (by simp [same, HF.out]), HE.out⟩
  replace hc := Classical.not_not.1 hc
  subst hc
  by_cases hc : ¬ x1 = x2
  · have q : (x1 == x2) = false := beq_eq_false_iff_ne.2 hc
    have HF := Lib.hid hc
    clear hc
    go_enter Try.func32, Try.ntmps32
    go_wp2
    go_ret
    exact ⟨ret_bool (by simp [same, HF.out]), HE.out⟩
  replace hc := Classical.not_not.1 hc
  subst hc
  by_cases hc : ¬ y1 = y2
  · have q : (y1 == y2) = false := beq_eq_false_iff_ne.2 hc
    have HF := Lib.hid hc
    clear hc
    go_enter Try.func32, Try.ntmps32
    go_wp2
    go_ret
    exact ⟨ret_bool (by simp [same, HF.out]), HE.out⟩
  replace hc := Classical.not_not.1 hc
  subst hc
  by_cases hc : ¬ z1 = z2
  · have q : (z1 == z2) = false := beq_eq_false_iff_ne.2 hc
    have HF := Lib.hid hc
    clear hc
    go_enter Try.func32, Try.ntmps32
    go_wp2
    go_ret
    exact ⟨ret_bool (by simp [same, HF.out]), HE.out⟩
  replace hc := Classical.not_not.1 hc
  subst hc
  by_cases hc : ¬ b1 = b2
  · have q : (b1 == b2) = false := beq_eq_false_iff_ne.2 hc
    have HF := Lib.hid hc
    clear hc
    go_enter Try.func32, Try.ntmps32
    go_wp2
    go_ret
    exact ⟨ret_bool (by simp [same, HF.out]), HE.out⟩
  replace hc := Classical.not_not.1 hc
  subst hc
  go_enter Try.func32, Try.ntmps32
  go_wp2
  go_ret
  exact ⟨ret_bool (by simp [same]), HE.out⟩
set_option maxRecDepth 100000 in
set_option maxHeartbeats 4000000 in
theorem rsame_calls (a b : St) (D1 : Option Addr) (n1 c1 : Nat) (D2 : Option Addr) (n2 c2 : Nat) (w : World) (h1 : Rd w .u8 D1 n1 (ints a.data)) (h2 : Rd w .u8 D2 n2 (ints b.data)) :
    Calls Try.prog 34 #[stV a D1 n1 c1, stV b D2 n2 c2] w fun e w' => e = .returned (.bool (same a b)) ∧ Ext w w' := by
  obtain ⟨k1, m1, d1, x1, y1, z1, b1⟩ := a
  obtain ⟨k2, m2, d2, x2, y2, z2, b2⟩ := b
  have hE := (Ext.new w (.cells #[.int .i64 k1, .string (S m1), .slice D1 n1 c1, .int .i64 x1, .int .i64 y1, .int .i64 z1, .int .u8 b1] 43)).alloc (.cells #[.int .i64 k2, .string (S m2), .slice D2 n2 c2, .int .i64 x2, .int .i64 y2, .int .i64 z2, .int .u8 b2] 43)
  have s1 := run_string (P := Try.prog) 22 9 5 c1 Try.underlying22 Try.underlying5 Try.underlying9 (h1.ext hE)
  have s2 := run_string (P := Try.prog) 22 9 5 c2 Try.underlying22 Try.underlying5 Try.underlying9 (h2.ext hE)
  rw [str_ints] at s1 s2
  have HE := Lib.hid hE
  clear hE h1 h2
  dsimp only [stV] at *
  by_cases hc : ¬ k1 = k2
  · have q : (k1 == k2) = false := beq_eq_false_iff_ne.2 hc
    have HF := Lib.hid hc
    clear hc
    go_enter Try.func34, Try.ntmps34
    go_wp2
    go_ret
    exact ⟨ret_bool (by simp [same, HF.out]), HE.out⟩
  replace hc := Classical.not_not.1 hc
  subst hc
  by_cases hc : ¬ m1 = m2
  · have q : (m1 == m2) = false := beq_eq_false_iff_ne.2 hc
    have HF := Lib.hid hc
    clear hc
    go_enter Try.func34, Try.ntmps34
    go_wp2
    go_ret
    exact ⟨ret_bool (by simp [same, HF.out]), HE.out⟩
  replace hc := Classical.not_not.1 hc
  subst hc
  by_cases hc : ¬ d1 = d2
  · have q : (d1 == d2) = false := beq_eq_false_iff_ne.2 hc
    have HF := Lib.hid hc
    clear hc
    go_enter Try.func34, Try.ntmps34
    go_wp2
    go_ret
    exact ⟨ret_bool (by simp [same, HF.out]), HE.out⟩
  replace hc := Classical.not_not.1 hc
  subst hc
  by_cases hc : ¬ x1 = x2
  · have q : (x1 == x2) = false := beq_eq_false_iff_ne.2 hc
    have HF := Lib.hid hc
    clear hc
    go_enter Try.func34, Try.ntmps34
    go_wp2
    go_ret
    exact ⟨ret_bool (by simp [same, HF.out]), HE.out⟩
  replace hc := Classical.not_not.1 hc
  subst hc
  by_cases hc : ¬ y1 = y2
  · have q : (y1 == y2) = false := beq_eq_false_iff_ne.2 hc
    have HF := Lib.hid hc
    clear hc
    go_enter Try.func34, Try.ntmps34
    go_wp2
    go_ret
    exact ⟨ret_bool (by simp [same, HF.out]), HE.out⟩
  replace hc := Classical.not_not.1 hc
  subst hc
  by_cases hc : ¬ z1 = z2
  · have q : (z1 == z2) = false := beq_eq_false_iff_ne.2 hc
    have HF := Lib.hid hc
    clear hc
    go_enter Try.func34, Try.ntmps34
    go_wp2
    go_ret
    exact ⟨ret_bool (by simp [same, HF.out]), HE.out⟩
  replace hc := Classical.not_not.1 hc
  subst hc
  by_cases hc : ¬ b1 = b2
  · have q : (b1 == b2) = false := beq_eq_false_iff_ne.2 hc
    have HF := Lib.hid hc
    clear hc
    go_enter Try.func34, Try.ntmps34
    go_wp2
    go_ret
    exact ⟨ret_bool (by simp [same, HF.out]), HE.out⟩
  replace hc := Classical.not_not.1 hc
  subst hc
  go_enter Try.func34, Try.ntmps34
  go_wp2
  go_ret
  exact ⟨ret_bool (by simp [same]), HE.out⟩
set_option maxRecDepth 100000 in
set_option maxHeartbeats 4000000 in
theorem to_calls (s : St) (D : Option Addr) (n c : Nat) (w : World) : Calls Try.prog 33 #[stV s D n c] w fun e w' => e = .returned (stV s D n c) ∧ Ext w w' := by
  obtain ⟨k, m, d, x, y, z, b⟩ := s
  dsimp only [stV]
  go_enter Try.func33, Try.ntmps33
  go_wp2
  exact bodyPost_ret (v := .agg #[.int .i64 k, .string (S m), .slice D n c, .int .i64 x, .int .i64 y, .int .i64 z, .int .u8 b]) (by simp [results, Try.results33, go_sem]) rfl ⟨rfl, (Ext.new _ _).alloc _⟩
end Go.Proofs.Ytfhgjopoohfhjaa.Script
