/- Vaults that are none, and one of no disk: what they answer, walked. -/
import Derived.Test.YtipmkddcdnbihaaVaultCmp
namespace Go.Proofs.Ytipmkddcdnbihaa.Vault
open Go.RowKit Base Step MapIs
open VaultP (Sh)
theorem has_nil (s : Sh) (w : World) : Calls Try.prog 60 #[.pointer none, shV s] w fun e w' => e = .returned (.bool false) ∧ Ext w w' := by
  go_enter Try.func60, Try.ntmps60
  go_wp2_with fail
  go_ret
  exact ⟨rfl, Ext.new _ _⟩
theorem len_nilV (w : World) : Calls Try.prog 58 #[.pointer none] w fun e w' => e = .returned (.int .i64 0) ∧ Ext w w' := by
  go_enter Try.func58, Try.ntmps58
  go_wp2_with fail
  go_ret
  exact ⟨rfl, Ext.refl _⟩
theorem list_nil (w : World) : Calls Try.prog 59 #[.pointer none] w fun e w' => e = .returned (.slice none 0 0) ∧ Ext w w' := by
  go_enter Try.func59, Try.ntmps59
  go_wp2_with fail
  go_ret
  exact ⟨rfl, by first | exact Ext.refl _ | exact Ext.new _ _⟩
theorem open_nil (w : World) : Calls Try.prog 54 #[.pointer none] w fun e w' => e = .returned (.tuple #[.pointer none, .int .i64 3]) ∧ Ext w w' := by
  go_enter Try.func54, Try.ntmps54
  go_wp2_with fail
  go_ret2
  exact ⟨rfl, Ext.refl _⟩
set_option maxRecDepth 100000 in
theorem get_nil (s : Sh) (w : World) : Calls Try.prog 55 #[.pointer none, shV s] w fun e w' => e = .returned (.tuple #[.slice none 0 0, .int .i64 6]) ∧ Ext w w' := by
  have e0 := Lib.hid (Ext.new w (.cells #[.int .u32 s.o, .int .u16 s.st, .int .u16 s.sl, .int .u32 s.g] 111))
  go_enter Try.func55, Try.ntmps55
  go_wp2_with fail
  refine (has_nil s _).mono ?_
  rintro e w1 ⟨rfl, he1⟩
  have E1 := Lib.hid (e0.out.trans he1)
  clear he1
  go_wp2_with fail
  go_ret2
  exact ⟨rfl, E1.out⟩
set_option maxRecDepth 100000 in
theorem cell_nil (s : Sh) (w : World) : Calls Try.prog 61 #[.pointer none, shV s] w fun e w' => e = .returned (.int .i64 (-1)) ∧ Ext w w' := by
  have e0 := Lib.hid (Ext.new w (.cells #[.int .u32 s.o, .int .u16 s.st, .int .u16 s.sl, .int .u32 s.g] 111))
  go_enter Try.func61, Try.ntmps61
  go_wp2_with fail
  refine (has_nil s _).mono ?_
  rintro e w1 ⟨rfl, he1⟩
  have E1 := Lib.hid (e0.out.trans he1)
  clear he1
  go_wp2_with fail
  go_ret
  exact ⟨rfl, E1.out⟩
theorem begin_nil (s : Sh) (w : World) : Calls Try.prog 62 #[.pointer none, shV s, .slice none 0 0] w fun e w' => e = .returned (.int .i64 3) ∧ Ext w w' := by
  go_enter Try.func62, Try.ntmps62
  go_wp2_with fail
  go_ret
  exact ⟨rfl, Ext.new _ _⟩
theorem drop_nil (s : Sh) (w : World) : Calls Try.prog 64 #[.pointer none, shV s] w fun e w' => e = .returned (.int .i64 3) ∧ Ext w w' := by
  go_enter Try.func64, Try.ntmps64
  go_wp2_with fail
  go_ret
  exact ⟨rfl, Ext.new _ _⟩
theorem put_nil (s : Sh) (w : World) : Calls Try.prog 63 #[.pointer none, shV s, .slice none 0 0] w fun e w' => e = .returned (.int .i64 3) ∧ Ext w w' := by
  have e0 := Lib.hid (Ext.new w (.cells #[.int .u32 s.o, .int .u16 s.st, .int .u16 s.sl, .int .u32 s.g] 111))
  go_enter Try.func63, Try.ntmps63
  go_wp2_with fail
  refine (begin_nil s _).mono ?_
  rintro e w1 ⟨rfl, he1⟩
  have E1 := Lib.hid (e0.out.trans he1)
  clear he1
  go_wp2_with fail
  go_ret
  exact ⟨rfl, E1.out⟩
/-- A vault of no disk, and of no map. -/
def Zero (w : World) (g : Nat) : Prop := w.heap[g]? = some (.cells #[.pointer none, .map none] 119 (0, 0))
theorem Zero.ext {w w' : World} {g : Nat} (h : Zero w g) (he : Ext w w') : Zero w' g := he.at_ h
set_option maxRecDepth 100000 in
theorem begin_zero (g : Nat) (s : Sh) (w : World) (h : Zero w g) : Calls Try.prog 62 #[.pointer (some ⟨g, 0, none⟩), shV s, .slice none 0 0] w fun e w' => e = .returned (.int .i64 3) ∧ Ext w w' := by
  have e0 := Lib.hid (Ext.new w (.cells #[.int .u32 s.o, .int .u16 s.st, .int .u16 s.sl, .int .u32 s.g] 111))
  have c0 : (w.alloc (.cells #[.int .u32 s.o, .int .u16 s.st, .int .u16 s.sl, .int .u32 s.g] 111)).cell? ⟨g, 0, none⟩ = some (.pointer none) := blk_cell (i := 0) h e0.out rfl
  clear h
  go_enter Try.func62, Try.ntmps62
  go_upto_region 1 with fail
  generalize w.alloc (.cells #[.int .u32 s.o, .int .u16 s.st, .int .u16 s.sl, .int .u32 s.g] 111) = wb at *
  go_wp2_with fail
  go_ret
  exact ⟨rfl, e0.out⟩
set_option maxRecDepth 100000 in
theorem drop_zero (g : Nat) (s : Sh) (w : World) (h : Zero w g) : Calls Try.prog 64 #[.pointer (some ⟨g, 0, none⟩), shV s] w fun e w' => e = .returned (.int .i64 3) ∧ Ext w w' := by
  have e0 := Lib.hid (Ext.new w (.cells #[.int .u32 s.o, .int .u16 s.st, .int .u16 s.sl, .int .u32 s.g] 111))
  have c0 : (w.alloc (.cells #[.int .u32 s.o, .int .u16 s.st, .int .u16 s.sl, .int .u32 s.g] 111)).cell? ⟨g, 0, none⟩ = some (.pointer none) := blk_cell (i := 0) h e0.out rfl
  clear h
  go_enter Try.func64, Try.ntmps64
  go_upto_region 1 with fail
  generalize w.alloc (.cells #[.int .u32 s.o, .int .u16 s.st, .int .u16 s.sl, .int .u32 s.g] 111) = wb at *
  go_wp2_with fail
  go_ret
  exact ⟨rfl, e0.out⟩
set_option maxRecDepth 100000 in
theorem put_zero (g : Nat) (s : Sh) (w : World) (h : Zero w g) : Calls Try.prog 63 #[.pointer (some ⟨g, 0, none⟩), shV s, .slice none 0 0] w fun e w' => e = .returned (.int .i64 3) ∧ Ext w w' := by
  have e0 := Lib.hid (Ext.new w (.cells #[.int .u32 s.o, .int .u16 s.st, .int .u16 s.sl, .int .u32 s.g] 111))
  go_enter Try.func63, Try.ntmps63
  go_wp2_with fail
  refine (begin_zero g s _ (h.ext e0.out)).mono ?_
  rintro e w1 ⟨rfl, he1⟩
  have E1 := Lib.hid (e0.out.trans he1)
  clear he1
  go_wp2_with fail
  go_ret
  exact ⟨rfl, E1.out⟩
set_option maxRecDepth 100000 in
theorem has_zero (g : Nat) (s : Sh) (w : World) (h : Zero w g) (hs : s.Ok) : Calls Try.prog 60 #[.pointer (some ⟨g, 0, none⟩), shV s] w fun e w' => e = .returned (.bool false) ∧ Ext w w' := by
  obtain ⟨kl, hkl⟩ := key_of hs
  have e0 := Ext.new w (.cells #[.int .u32 s.o, .int .u16 s.st, .int .u16 s.sl, .int .u32 s.g] 111)
  have hb1 := at_new w (.cells #[.int .u32 s.o, .int .u16 s.st, .int .u16 s.sl, .int .u32 s.g] 111)
  have hv : ∀ W, Ext (w.alloc (.cells #[.int .u32 s.o, .int .u16 s.st, .int .u16 s.sl, .int .u32 s.g] 111)).drew W → W.cell? ⟨g, 1, none⟩ = some (.map none) := fun W hW => blk_cell h (e0.trans (drew_ext hW)) rfl
  have hl : ∀ W : World, (Instr.lookup 117 (.map none) (shV s) true).run Try.prog W = .ok (.tuple #[.int .i64 0, .bool false]) W := fun W => Maps.look_nil true shard_keyed Try.underlying117 (int_zero W) hkl
  have c0 : ∀ W, Ext (w.alloc (.cells #[.int .u32 s.o, .int .u16 s.st, .int .u16 s.sl, .int .u32 s.g] 111)).drew W → W.cell? ⟨w.heap.size, 0, none⟩ = some (.int .u32 s.o) := fun W hW => blk_cell hb1 (drew_ext hW) rfl
  have c1 : ∀ W, Ext (w.alloc (.cells #[.int .u32 s.o, .int .u16 s.st, .int .u16 s.sl, .int .u32 s.g] 111)).drew W → W.cell? ⟨w.heap.size, 1, none⟩ = some (.int .u16 s.st) := fun W hW => blk_cell hb1 (drew_ext hW) rfl
  have c2 : ∀ W, Ext (w.alloc (.cells #[.int .u32 s.o, .int .u16 s.st, .int .u16 s.sl, .int .u32 s.g] 111)).drew W → W.cell? ⟨w.heap.size, 2, none⟩ = some (.int .u16 s.sl) := fun W hW => blk_cell hb1 (drew_ext hW) rfl
  have c3 : ∀ W, Ext (w.alloc (.cells #[.int .u32 s.o, .int .u16 s.st, .int .u16 s.sl, .int .u32 s.g] 111)).drew W → W.cell? ⟨w.heap.size, 3, none⟩ = some (.int .u32 s.g) := fun W hW => blk_cell hb1 (drew_ext hW) rfl
  go_enter Try.func60, Try.ntmps60
  go_wp2_with fail
  refine Lex.wp_region_u [0, 1, 2, 3, 4, 5, 6, 7, 8, 9, 10] [] [] (by kernel_rfl) (by kernel_rfl) (by repeat (first | exact Lex.st_nil | refine Lex.st_cons (by first | exact Lex.nums_st | exact Lex.const_st | exact Lex.such_st | exact Lex.row_st | exact Lex.rowE_st | exact Lex.litR_st | assumption) ?_)) ?_; simp only [Lex.pick, List.getElem?_cons_succ, List.getElem?_cons_zero, List.map_nil]
  repeat (first | (refine Lex.lexU_skip (by rfl) ?_; simp only [Act.put, List.setIfInBounds_toArray, List.set_cons_zero, List.set_cons_succ]) | (refine Lex.lexU_still (by rfl) (by rfl) (by first | exact Base.Ext.refl | exact Lex.Fill.refl) ?_; apply Exists.intro; refine ⟨fun W hW => ?_, ?_⟩; (have hE := Lex.ext_of_cls hW.1; have hE2 := Lex.ext_drew hE; clear hW; go_simp; try with_reducible rfl); simp only [Act.put, List.setIfInBounds_toArray, List.set_cons_zero, List.set_cons_succ]))
  refine Lex.lexU_nil (fun W hW => ?_)
  have hE := Lib.hid (e0.trans (Lex.ext_drew hW.1))
  clear hW
  refine Lex.onlyN_intro ?_
  go_wp2_with fail
  go_ret
  exact ⟨rfl, hE.out⟩
set_option maxRecDepth 100000 in
theorem get_zero (g : Nat) (s : Sh) (w : World) (h : Zero w g) (hs : s.Ok) : Calls Try.prog 55 #[.pointer (some ⟨g, 0, none⟩), shV s] w fun e w' => e = .returned (.tuple #[.slice none 0 0, .int .i64 6]) ∧ Ext w w' := by
  have e0 := Lib.hid (Ext.new w (.cells #[.int .u32 s.o, .int .u16 s.st, .int .u16 s.sl, .int .u32 s.g] 111))
  go_enter Try.func55, Try.ntmps55
  go_wp2_with fail
  refine (has_zero g s _ (h.ext e0.out) hs).mono ?_
  rintro e w1 ⟨rfl, he1⟩
  have E1 := Lib.hid (e0.out.trans he1)
  clear he1
  go_wp2_with fail
  go_ret2
  exact ⟨rfl, E1.out⟩
end Go.Proofs.Ytipmkddcdnbihaa.Vault
