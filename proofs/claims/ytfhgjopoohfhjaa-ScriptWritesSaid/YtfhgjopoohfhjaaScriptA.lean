/- The script's functions, walked: names and forms. -/
import Derived.Test.YtfhgjopoohfhjaaScriptP
import Derived.Test.YtfhgjopoohfhjaaVec
import Derived.Test.YtfhgjopoohfhjaaFill
import Derived.WalkSpells
import Derived.WalkLawsBesides
namespace Go.Proofs.Ytfhgjopoohfhjaa.Script
open Go.RowKit Base Step Vec
open ScriptP (L nm nameI kindOf Kind form formI digits digitsI numP numR chr)
/-- A line as bytes. -/
abbrev S (l : L) : ByteArray := ⟨l.toArray⟩
theorem kinds {k : Int} (h : 1 ≤ k ∧ k ≤ 17) : k = 1 ∨ k = 2 ∨ k = 3 ∨ k = 4 ∨ k = 5 ∨ k = 6 ∨ k = 7 ∨ k = 8 ∨ k = 9 ∨ k = 10 ∨ k = 11 ∨ k = 12 ∨ k = 13 ∨ k = 14 ∨ k = 15 ∨ k = 16 ∨ k = 17 := by omega
set_option maxRecDepth 100000 in
set_option maxHeartbeats 4000000 in
theorem form_calls (k : Int) (w : World) : Calls Try.prog 107 #[.int .i64 k] w fun e w' => e = .returned (.string (S (formI k))) ∧ w = w' := by
  by_cases h : 1 ≤ k ∧ k ≤ 17
  · rcases kinds h with rfl | rfl | rfl | rfl | rfl | rfl | rfl | rfl | rfl | rfl | rfl | rfl | rfl | rfl | rfl | rfl | rfl
    all_goals
      go_enter Try.func107, Try.ntmps107
      go_wp2
      go_ret
      exact ⟨rfl, rfl⟩
  · have h0 : formI k = [] := by unfold formI; rw [if_neg h]
    have HF : Hid (formI k = []) := Lib.hid h0
    have n1 : (k == 1) = false := by simp; omega
    have n2 : (k == 2) = false := by simp; omega
    have n3 : (k == 3) = false := by simp; omega
    have n5 : (k == 5) = false := by simp; omega
    have n6 : (k == 6) = false := by simp; omega
    have n7 : (k == 7) = false := by simp; omega
    have n9 : (k == 9) = false := by simp; omega
    have n10 : (k == 10) = false := by simp; omega
    have n11 : (k == 11) = false := by simp; omega
    have n12 : (k == 12) = false := by simp; omega
    have n13 : (k == 13) = false := by simp; omega
    have n14 : (k == 14) = false := by simp; omega
    have n15 : (k == 15) = false := by simp; omega
    have n16 : (k == 16) = false := by simp; omega
    have n17 : (k == 17) = false := by simp; omega
    clear h0 h
    go_enter Try.func107, Try.ntmps107
    go_wp2
    go_ret
    exact ⟨by rw [HF.out]; rfl, rfl⟩
set_option maxRecDepth 100000 in
set_option maxHeartbeats 4000000 in
theorem name_calls (k : Int) (w : World) : Calls Try.prog 30 #[.int .i64 k] w fun e w' => e = .returned (.string (S (nameI k))) ∧ Ext w w' := by
  by_cases h : 1 ≤ k ∧ k ≤ 17
  · rcases kinds h with rfl | rfl | rfl | rfl | rfl | rfl | rfl | rfl | rfl | rfl | rfl | rfl | rfl | rfl | rfl | rfl | rfl
    all_goals
      go_enter Try.func30, Try.ntmps30
      go_wp2
      go_ret
      exact ⟨rfl, Ext.new _ _⟩
  · have HF : Hid (nameI k = []) := Lib.hid (by unfold nameI; rw [if_neg h])
    by_cases h1 : k < 1
    · go_enter Try.func30, Try.ntmps30
      go_wp2
      go_ret
      exact ⟨by rw [HF.out]; rfl, Ext.new _ _⟩
    · have h2 : 18 ≤ k := by omega
      clear h
      go_enter Try.func30, Try.ntmps30
      go_wp2
      go_ret
      exact ⟨by rw [HF.out]; rfl, Ext.new _ _⟩
set_option maxRecDepth 100000 in
set_option maxHeartbeats 4000000 in
theorem rname_calls (k : Int) (w : World) : Calls Try.prog 31 #[.int .i64 k] w fun e w' => e = .returned (.string (S (nameI k))) ∧ Ext w w' := by
  by_cases h : 1 ≤ k ∧ k ≤ 17
  · rcases kinds h with rfl | rfl | rfl | rfl | rfl | rfl | rfl | rfl | rfl | rfl | rfl | rfl | rfl | rfl | rfl | rfl | rfl
    all_goals
      go_enter Try.func31, Try.ntmps31
      go_wp2
      go_ret
      exact ⟨rfl, Ext.new _ _⟩
  · have HF : Hid (nameI k = []) := Lib.hid (by unfold nameI; rw [if_neg h])
    by_cases h1 : k < 0
    · go_enter Try.func31, Try.ntmps31
      go_wp2
      go_ret
      exact ⟨by rw [HF.out]; rfl, Ext.new _ _⟩
    · by_cases h2 : k = 0
      · subst h2
        clear h
        go_enter Try.func31, Try.ntmps31
        go_wp2
        go_ret
        exact ⟨by rw [HF.out]; rfl, Ext.new _ _⟩
      · have h3 : 17 < k := by omega
        clear h
        go_enter Try.func31, Try.ntmps31
        go_wp2
        go_ret
        exact ⟨by rw [HF.out]; rfl, Ext.new _ _⟩
end Go.Proofs.Ytfhgjopoohfhjaa.Script
