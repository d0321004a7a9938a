/- A shard's name as a map's key. -/
import Derived.Test.YtipmkddcdnbihaaVaultB
import Derived.Test.YtipmkddcdnbihaaMapIs
import Derived.DeepKeys4
namespace Go.Proofs.Ytipmkddcdnbihaa.Vault
open Go.RowKit Base Step MapIs
open VaultP (Sh)
theorem laid : laidOutB Try.prog = true := by kernel_rfl
theorem shard_keyed : Maps.Keyed Try.prog 111 := Maps.Keyed.of_law (deep_law_laid laid (m := 9) (by decide) (of_decide_eq_true (by kernel_rfl)) (by kernel_rfl) (by kernel_rfl))
theorem key_of {s : Sh} (h : s.Ok) : ∃ kl, keyOf Try.prog 111 (shV s) = some kl := by
  obtain ⟨o, st, sl, g⟩ := s
  obtain ⟨h1, h2, h3, h4, h5, h6, h7, h8⟩ := h
  dsimp only at h1 h2 h3 h4 h5 h6 h7 h8
  have hk : Try.prog.keyType 111 = true := by kernel_rfl
  have c0 : Try.prog.cellsOf 111 = 4 := by kernel_rfl
  have c1 : Try.prog.cellsOf 27 = 1 := by kernel_rfl
  have c2 : Try.prog.cellsOf 28 = 1 := by kernel_rfl
  have wo : (Lit.int .u32 o).wf = true := by simp [Lit.wf, IntKind.min, IntKind.max, IntKind.bits, IntKind.signed]; omega
  have ws : (Lit.int .u16 st).wf = true := by simp [Lit.wf, IntKind.min, IntKind.max, IntKind.bits, IntKind.signed]; omega
  have wl : (Lit.int .u16 sl).wf = true := by simp [Lit.wf, IntKind.min, IntKind.max, IntKind.bits, IntKind.signed]; omega
  have wg : (Lit.int .u32 g).wf = true := by simp [Lit.wf, IntKind.min, IntKind.max, IntKind.bits, IntKind.signed]; omega
  obtain ⟨d, hd⟩ : ∃ d, Try.prog.types.size = d + 1 := ⟨Try.prog.types.size - 1, by have : 0 < Try.prog.types.size := of_decide_eq_true (by kernel_rfl); omega⟩
  simp only [keyOf, Try.underlying111, hk, Bool.true_and]
  rw [hd]
  simp [Value.formed, Program.keyLits, Try.underlying111, Try.underlying27, Try.underlying28, c0, c1, c2, wo, ws, wl, wg, Value.cells]
end Go.Proofs.Ytipmkddcdnbihaa.Vault
