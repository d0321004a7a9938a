/- slices.Index of a row of bools, walked. -/
import Derived.Test.YtipmkddcdnbihaaVaultA
namespace Go.Proofs.Ytipmkddcdnbihaa.Vault
open Go.RowKit Base Step
set_option maxRecDepth 100000 in
set_option maxHeartbeats 4000000 in
/-- The first place where a row has 'false', m places ahead of it having 'true'. -/
theorem index_calls (g n c m : Nat) (f : Nat → Bool) (w : World) (hn : n ≤ 1099511627776) (h : ∀ j, j < n → w.cell? ⟨g, j, none⟩ = some (.bool (f j))) (hm : m < n) (ht : ∀ j, j < m → f j = true) (hf : f m = false) :
    Calls Try.prog 184 #[.slice (some ⟨g, 0, none⟩) n c, .bool false] w fun e w' => e = .returned (.int .i64 (m : Nat)) ∧ w = w' := by
  have HC := Lib.hid h
  have HT := Lib.hid ht
  clear h ht
  go_enter Try.func184, Try.ntmps184
  go_wp2_with fail
  go_loop [5, 8] (fun _ i => ∃ j : Nat, i = .int .i64 j ∧ j ≤ m) (fun _ i => n - (intOf i).toNat)
  case atStart => exact ⟨0, rfl, Nat.zero_le _⟩
  case round =>
    obtain ⟨j, rfl, hj⟩ := hrel
    have hc := HC.out j (by omega)
    by_cases hlt : j < m
    · rw [HT.out j hlt] at hc
      go_wp2_with fail
      go_round
      case rel => exact ⟨j + 1, by go_num, by omega⟩
      case measure => (simp [intOf]; try omega)
    · obtain rfl : j = m := by omega
      rw [hf] at hc
      go_wp2_with fail
      go_ret
      exact ⟨rfl, rfl⟩
end Go.Proofs.Ytipmkddcdnbihaa.Vault
