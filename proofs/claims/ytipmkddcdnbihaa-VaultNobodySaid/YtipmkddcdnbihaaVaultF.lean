/- A vault: its map of shards; Has, Len, Cell, walked. -/
import Derived.Test.YtipmkddcdnbihaaVaultE
import Derived.Test.YtipmkddcdnbihaaDisk
namespace Go.Proofs.Ytipmkddcdnbihaa.Vault
open Go.RowKit Base Step MapIs
open VaultP (Sh shOf nameB cellOf readV Whole)
theorem shV_inj {s t : Sh} (h : shV s = shV t) : s = t := by
  obtain ⟨a, b, c, d⟩ := s
  obtain ⟨a', b', c', d'⟩ := t
  simp only [shV, Value.agg.injEq, Array.mk.injEq, List.cons.injEq, Value.int.injEq, true_and, and_true] at h
  obtain ⟨rfl, rfl, rfl, rfl⟩ := h
  rfl
/-- A vault's entries: each shard with its cell. -/
def ents (l : List (Sh × Nat)) : List (Value × Int) := l.map fun p => (shV p.1, (p.2 : Int))
theorem ents_mem {l : List (Sh × Nat)} {s : Sh} : shV s ∈ (ents l).map (·.1) ↔ s ∈ l.map (·.1) := by
  simp only [ents, List.map_map, List.mem_map, Function.comp]
  constructor
  · rintro ⟨p, h1, h2⟩
    exact ⟨p, h1, shV_inj h2⟩
  · rintro ⟨p, h1, rfl⟩
    exact ⟨p, h1, rfl⟩
theorem ents_len (l : List (Sh × Nat)) : (ents l).length = l.length := by simp [ents]
structure VaultAt (w : World) (gv gm gd : Nat) (l : List (Sh × Nat)) : Prop where
  at_ : w.heap[gv]? = some (.cells #[.pointer (some ⟨gd, 0, none⟩), .map (some gm)] 119 (0, 0))
  mp : Mp Try.prog 111 3 w gm (ents l)
  ok : ∀ p ∈ l, p.1.Ok
theorem VaultAt.ext {w w' : World} {gv gm gd : Nat} {l : List (Sh × Nat)} (h : VaultAt w gv gm gd l) (he : Ext w w') : VaultAt w' gv gm gd l := ⟨he.at_ h.at_, h.mp.ext he, h.ok⟩
theorem VaultAt.chg {w w' : World} {S : Nat → Prop} {gv gm gd : Nat} {l : List (Sh × Nat)} (h : VaultAt w gv gm gd l) (hc : Chg S w w') (h1 : ¬ S gv) (h2 : ¬ S gm) : VaultAt w' gv gm gd l := ⟨hc.at_ h.at_ h1, h.mp.chg hc h2, h.ok⟩
theorem VaultAt.lt {w : World} {gv gm gd : Nat} {l : List (Sh × Nat)} (h : VaultAt w gv gm gd l) : gv < w.heap.size ∧ gm < w.heap.size := ⟨Pack.lt_of_at h.at_, h.mp.lt⟩
theorem int_zero (w : World) : (zeroValue 3).run Try.prog w = .ok (.int .i64 0) w := by kernel_rfl
/-- The look-up of a shard that is there. -/
theorem VaultAt.hit {w : World} {gv gm gd : Nat} {l : List (Sh × Nat)} (h : VaultAt w gv gm gd l) {s : Sh} {c : Nat} (hm : (s, c) ∈ l) :
    (Instr.lookup 117 (.map (some gm)) (shV s) true).run Try.prog w = .ok (.tuple #[.int .i64 c, .bool true]) w ∧ (Instr.lookup 117 (.map (some gm)) (shV s) false).run Try.prog w = .ok (.int .i64 c) w :=
  h.mp.hit shard_keyed Try.underlying117 Try.underlying3 (int_zero w) (List.mem_map.2 ⟨_, hm, rfl⟩)
theorem VaultAt.miss {w : World} {gv gm gd : Nat} {l : List (Sh × Nat)} (h : VaultAt w gv gm gd l) {s : Sh} (hs : s.Ok) (hm : s ∉ l.map (·.1)) :
    (Instr.lookup 117 (.map (some gm)) (shV s) true).run Try.prog w = .ok (.tuple #[.int .i64 0, .bool false]) w := by
  obtain ⟨kl, hkl⟩ := key_of hs
  exact h.mp.miss shard_keyed Try.underlying117 Try.underlying3 (int_zero w) hkl fun k => hm (ents_mem.1 k)
set_option maxRecDepth 100000 in
set_option maxHeartbeats 1000000 in
theorem has_calls (gv gm gd : Nat) (l : List (Sh × Nat)) (s : Sh) (w : World) (h : VaultAt w gv gm gd l) (hs : s.Ok) :
    Calls Try.prog 60 #[.pointer (some ⟨gv, 0, none⟩), shV s] w fun e w' => e = .returned (.bool (decide (s ∈ l.map (·.1)))) ∧ Ext w w' := by
  obtain ⟨r, hr⟩ : ∃ r : Int × Bool, r.2 = decide (s ∈ l.map (·.1)) ∧ ∀ W, Ext w W → (Instr.lookup 117 (.map (some gm)) (shV s) true).run Try.prog W = .ok (.tuple #[.int .i64 r.1, .bool r.2]) W := by
    by_cases hm : s ∈ l.map (·.1)
    · obtain ⟨p, hp, rfl⟩ := List.mem_map.1 hm
      exact ⟨(p.2, true), by simp only [hm, decide_true], fun W hW => ((h.ext hW).hit (c := p.2) hp).1⟩
    · exact ⟨(0, false), by simp only [hm, decide_false], fun W hW => (h.ext hW).miss hs hm⟩
  obtain ⟨c, b⟩ := r
  obtain ⟨hb0, hL⟩ := hr
  have hb : b = decide (s ∈ l.map (·.1)) := hb0
  rw [← hb]
  clear hb hb0
  have e0 := Ext.new w (.cells #[.int .u32 s.o, .int .u16 s.st, .int .u16 s.sl, .int .u32 s.g] 111)
  have hb1 := at_new w (.cells #[.int .u32 s.o, .int .u16 s.st, .int .u16 s.sl, .int .u32 s.g] 111)
  have hv : ∀ W, Ext (w.alloc (.cells #[.int .u32 s.o, .int .u16 s.st, .int .u16 s.sl, .int .u32 s.g] 111)).drew W → W.cell? ⟨gv, 1, none⟩ = some (.map (some gm)) := fun W hW => blk_cell h.at_ (e0.trans (drew_ext hW)) rfl
  have hl : ∀ W, Ext (w.alloc (.cells #[.int .u32 s.o, .int .u16 s.st, .int .u16 s.sl, .int .u32 s.g] 111)).drew W → (Instr.lookup 117 (.map (some gm)) (shV s) true).run Try.prog W = .ok (.tuple #[.int .i64 c, .bool b]) W := fun W hW => hL W (e0.trans (drew_ext hW))
  have c0 : ∀ W, Ext (w.alloc (.cells #[.int .u32 s.o, .int .u16 s.st, .int .u16 s.sl, .int .u32 s.g] 111)).drew W → W.cell? ⟨w.heap.size, 0, none⟩ = some (.int .u32 s.o) := fun W hW => blk_cell hb1 (drew_ext hW) rfl
  have c1 : ∀ W, Ext (w.alloc (.cells #[.int .u32 s.o, .int .u16 s.st, .int .u16 s.sl, .int .u32 s.g] 111)).drew W → W.cell? ⟨w.heap.size, 1, none⟩ = some (.int .u16 s.st) := fun W hW => blk_cell hb1 (drew_ext hW) rfl
  have c2 : ∀ W, Ext (w.alloc (.cells #[.int .u32 s.o, .int .u16 s.st, .int .u16 s.sl, .int .u32 s.g] 111)).drew W → W.cell? ⟨w.heap.size, 2, none⟩ = some (.int .u16 s.sl) := fun W hW => blk_cell hb1 (drew_ext hW) rfl
  have c3 : ∀ W, Ext (w.alloc (.cells #[.int .u32 s.o, .int .u16 s.st, .int .u16 s.sl, .int .u32 s.g] 111)).drew W → W.cell? ⟨w.heap.size, 3, none⟩ = some (.int .u32 s.g) := fun W hW => blk_cell hb1 (drew_ext hW) rfl
  go_enter Try.func60, Try.ntmps60
  go_wp2_with fail
  refine Lex.wp_region_u [0, 1, 2, 3, 4, 5, 6, 7, 8, 9, 10] [] [] (by kernel_rfl) (by kernel_rfl) (by repeat (first | exact Lex.st_nil | refine Lex.st_cons (by first | exact Lex.nums_st | exact Lex.const_st | exact Lex.such_st | exact Lex.row_st | exact Lex.rowE_st | exact Lex.litR_st | assumption) ?_)) ?_; simp only [Lex.pick, List.getElem?_cons_succ, List.getElem?_cons_zero, List.map_nil]
  repeat (first | (refine Lex.lexU_skip (by rfl) ?_; simp only [Act.put, List.setIfInBounds_toArray, List.set_cons_zero, List.set_cons_succ]) | (refine Lex.lexU_still (by rfl) (by rfl) (by first | exact Base.Ext.refl | exact Lex.Fill.refl) ?_; apply Exists.intro; refine ⟨fun W hW => ?_, ?_⟩; (have hE := Lex.ext_of_cls hW.1; have hE2 := Lex.ext_drew hE; clear hW; go_simp; try with_reducible rfl); simp only [Act.put, List.setIfInBounds_toArray, List.set_cons_zero, List.set_cons_succ]))
  refine Lex.lexU_nil (fun W hW => ?_)
  have hE := Lib.hid (e0.trans (Lex.ext_drew hW.1))
  clear hW
  refine Lex.onlyN_intro ?_
  go_wp2_with fail
  go_ret
  exact ⟨rfl, hE.out⟩
set_option maxRecDepth 100000 in
theorem vlen_calls (gv gm gd : Nat) (l : List (Sh × Nat)) (w : World) (h : VaultAt w gv gm gd l) :
    Calls Try.prog 58 #[.pointer (some ⟨gv, 0, none⟩)] w fun e w' => e = .returned (.int .i64 l.length) ∧ w = w' := by
  have hl : ∀ ty, (Builtin.len_ #[117] ty #[.map (some gm)]).run Try.prog w = .ok (.int .i64 l.length) w := fun ty => by
    rw [h.mp.len Try.underlying117 ty, ents_len]
  have hv : w.cell? ⟨gv, 1, none⟩ = some (.map (some gm)) := blk_cell h.at_ (Ext.refl _) rfl
  go_enter Try.func58, Try.ntmps58
  go_wp2_with fail
  go_ret
  exact ⟨rfl, rfl⟩
set_option maxRecDepth 100000 in
set_option maxHeartbeats 1000000 in
theorem cell_calls (gv gm gd : Nat) (l : List (Sh × Nat)) (s : Sh) (w : World) (h : VaultAt w gv gm gd l) (hs : s.Ok) :
    Calls Try.prog 61 #[.pointer (some ⟨gv, 0, none⟩), shV s] w fun e w' => Ext w w' ∧ ((s ∉ l.map (·.1) ∧ e = .returned (.int .i64 (-1))) ∨ ∃ c : Nat, (s, c) ∈ l ∧ e = .returned (.int .i64 c)) := by
  have e0 := Ext.new w (.cells #[.int .u32 s.o, .int .u16 s.st, .int .u16 s.sl, .int .u32 s.g] 111)
  have hb1 := at_new w (.cells #[.int .u32 s.o, .int .u16 s.st, .int .u16 s.sl, .int .u32 s.g] 111)
  go_enter Try.func61, Try.ntmps61
  go_wp2_with fail
  refine (has_calls gv gm gd l s _ (h.ext e0) hs).mono ?_
  rintro e w1 ⟨rfl, he1⟩
  have E1 := Lib.hid (e0.trans he1)
  have hB1 := he1.at_ hb1
  clear hb1 he1
  by_cases hm : s ∈ l.map (·.1)
  · obtain ⟨⟨s', c⟩, hp, hps⟩ := List.mem_map.1 hm
    have hps : s' = s := hps
    subst hps
    have hL : ∀ W, Ext w1.drew W → (Instr.lookup 117 (.map (some gm)) (shV s') false).run Try.prog W = .ok (.int .i64 c) W := fun W hW => ((h.ext (E1.out.trans (drew_ext hW))).hit (c := c) hp).2
    have hv : ∀ W, Ext w1.drew W → W.cell? ⟨gv, 1, none⟩ = some (.map (some gm)) := fun W hW => blk_cell h.at_ (E1.out.trans (drew_ext hW)) rfl
    have c0 : ∀ W, Ext w1.drew W → W.cell? ⟨w.heap.size, 0, none⟩ = some (.int .u32 s'.o) := fun W hW => blk_cell hB1 (drew_ext hW) rfl
    have c1 : ∀ W, Ext w1.drew W → W.cell? ⟨w.heap.size, 1, none⟩ = some (.int .u16 s'.st) := fun W hW => blk_cell hB1 (drew_ext hW) rfl
    have c2 : ∀ W, Ext w1.drew W → W.cell? ⟨w.heap.size, 2, none⟩ = some (.int .u16 s'.sl) := fun W hW => blk_cell hB1 (drew_ext hW) rfl
    have c3 : ∀ W, Ext w1.drew W → W.cell? ⟨w.heap.size, 3, none⟩ = some (.int .u32 s'.g) := fun W hW => blk_cell hB1 (drew_ext hW) rfl
    simp only [hm, decide_true]
    clear hm
    go_wp2_with fail
    refine Lex.wp_region_u [0, 1, 2, 3, 4, 5, 6] [] [] (by kernel_rfl) (by kernel_rfl) (by repeat (first | exact Lex.st_nil | refine Lex.st_cons (by first | exact Lex.nums_st | exact Lex.const_st | exact Lex.such_st | exact Lex.row_st | exact Lex.rowE_st | exact Lex.litR_st | assumption) ?_)) ?_; simp only [Lex.pick, List.getElem?_cons_succ, List.getElem?_cons_zero, List.map_nil]
    repeat (first | (refine Lex.lexU_skip (by rfl) ?_; simp only [Act.put, List.setIfInBounds_toArray, List.set_cons_zero, List.set_cons_succ]) | (refine Lex.lexU_still (by rfl) (by rfl) (by first | exact Base.Ext.refl | exact Lex.Fill.refl) ?_; apply Exists.intro; refine ⟨fun W hW => ?_, ?_⟩; (have hE := Lex.ext_of_cls hW.1; have hE2 := Lex.ext_drew hE; clear hW; go_simp; try with_reducible rfl); simp only [Act.put, List.setIfInBounds_toArray, List.set_cons_zero, List.set_cons_succ]))
    refine Lex.lexU_nil (fun W hW => ?_)
    have hE := Lib.hid (E1.out.trans (Lex.ext_drew hW.1))
    clear hW
    refine Lex.onlyN_intro ?_
    go_wp2_with fail
    go_ret
    exact ⟨hE.out, .inr ⟨c, hp, rfl⟩⟩
  · simp only [hm, decide_false]
    go_wp2_with fail
    go_ret
    exact ⟨E1.out, .inl ⟨hm, rfl⟩⟩
end Go.Proofs.Ytipmkddcdnbihaa.Vault
