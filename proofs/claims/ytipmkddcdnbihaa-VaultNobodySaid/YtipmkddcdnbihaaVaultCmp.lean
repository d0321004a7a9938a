/- Which of two shards is first: the program's Compare, and the document's Less, walked. -/
import Derived.Test.YtipmkddcdnbihaaVaultF
namespace Go.Proofs.Ytipmkddcdnbihaa.Vault
open Go.RowKit Base Step MapIs
open VaultP (Sh)
def cmpI (a b : Int) : Int := if a < b then -1 else if b < a then 1 else 0
def orI (a b c d : Int) : Int := if a = 0 then (if b = 0 then (if c = 0 then d else c) else b) else a
def cmpS (s t : Sh) : Int := orI (cmpI s.o t.o) (cmpI s.st t.st) (cmpI s.sl t.sl) (cmpI s.g t.g)
def lessS (s t : Sh) : Bool := if s.o = t.o then (if s.st = t.st then (if s.sl = t.sl then decide (s.g < t.g) else decide (s.sl < t.sl)) else decide (s.st < t.st)) else decide (s.o < t.o)
theorem cmpI_cases (a b : Int) : (a < b ∧ cmpI a b = -1) ∨ (b < a ∧ cmpI a b = 1) ∨ (a = b ∧ cmpI a b = 0) := by
  unfold cmpI
  by_cases h1 : a < b
  · exact .inl ⟨h1, if_pos h1⟩
  · by_cases h2 : b < a
    · exact .inr (.inl ⟨h2, by rw [if_neg h1, if_pos h2]⟩)
    · exact .inr (.inr ⟨by omega, by rw [if_neg h1, if_neg h2]⟩)
theorem lessS_iff (s t : Sh) : lessS s t = true ↔ s.o < t.o ∨ (s.o = t.o ∧ (s.st < t.st ∨ (s.st = t.st ∧ (s.sl < t.sl ∨ (s.sl = t.sl ∧ s.g < t.g))))) := by
  unfold lessS
  by_cases h1 : s.o = t.o
  · by_cases h2 : s.st = t.st
    · by_cases h3 : s.sl = t.sl
      · rw [if_pos h1, if_pos h2, if_pos h3, decide_eq_true_eq]; omega
      · rw [if_pos h1, if_pos h2, if_neg h3, decide_eq_true_eq]; omega
    · rw [if_pos h1, if_neg h2, decide_eq_true_eq]; omega
  · rw [if_neg h1, decide_eq_true_eq]; omega
theorem cmpS_iff (s t : Sh) : (cmpS s t = -1 ∧ lessS s t = true ∧ lessS t s = false ∧ s ≠ t) ∨ (cmpS s t = 1 ∧ lessS t s = true ∧ lessS s t = false ∧ s ≠ t) ∨ (cmpS s t = 0 ∧ s = t ∧ lessS s t = false ∧ lessS t s = false) := by
  have n1 : lessS s t = false ↔ ¬ (s.o < t.o ∨ (s.o = t.o ∧ (s.st < t.st ∨ (s.st = t.st ∧ (s.sl < t.sl ∨ (s.sl = t.sl ∧ s.g < t.g)))))) := by rw [← lessS_iff]; simp
  have n2 : lessS t s = false ↔ ¬ (t.o < s.o ∨ (t.o = s.o ∧ (t.st < s.st ∨ (t.st = s.st ∧ (t.sl < s.sl ∨ (t.sl = s.sl ∧ t.g < s.g)))))) := by rw [← lessS_iff]; simp
  have hne : (s.o ≠ t.o ∨ s.st ≠ t.st ∨ s.sl ≠ t.sl ∨ s.g ≠ t.g) → s ≠ t := fun h k => by subst k; omega
  have heq : s.o = t.o → s.st = t.st → s.sl = t.sl → s.g = t.g → s = t := fun k1 k2 k3 k4 => by
    obtain ⟨_, _, _, _⟩ := s
    obtain ⟨_, _, _, _⟩ := t
    cases k1; cases k2; cases k3; cases k4; rfl
  have hc : cmpS s t = orI (cmpI s.o t.o) (cmpI s.st t.st) (cmpI s.sl t.sl) (cmpI s.g t.g) := rfl
  rw [lessS_iff, lessS_iff, n1, n2]
  rcases cmpI_cases s.o t.o with ⟨h1, e1⟩ | ⟨h1, e1⟩ | ⟨h1, e1⟩
  · refine .inl ⟨?_, ?_, ?_, hne (by omega)⟩
    · rw [hc, e1]; rfl
    · omega
    · omega
  · refine .inr (.inl ⟨?_, ?_, ?_, hne (by omega)⟩)
    · rw [hc, e1]; rfl
    · omega
    · omega
  · rcases cmpI_cases s.st t.st with ⟨h2, e2⟩ | ⟨h2, e2⟩ | ⟨h2, e2⟩
    · refine .inl ⟨?_, ?_, ?_, hne (by omega)⟩
      · rw [hc, e1, e2]; rfl
      · omega
      · omega
    · refine .inr (.inl ⟨?_, ?_, ?_, hne (by omega)⟩)
      · rw [hc, e1, e2]; rfl
      · omega
      · omega
    · rcases cmpI_cases s.sl t.sl with ⟨h3, e3⟩ | ⟨h3, e3⟩ | ⟨h3, e3⟩
      · refine .inl ⟨?_, ?_, ?_, hne (by omega)⟩
        · rw [hc, e1, e2, e3]; rfl
        · omega
        · omega
      · refine .inr (.inl ⟨?_, ?_, ?_, hne (by omega)⟩)
        · rw [hc, e1, e2, e3]; rfl
        · omega
        · omega
      · rcases cmpI_cases s.g t.g with ⟨h4, e4⟩ | ⟨h4, e4⟩ | ⟨h4, e4⟩
        · refine .inl ⟨?_, ?_, ?_, hne (by omega)⟩
          · rw [hc, e1, e2, e3, e4]; rfl
          · omega
          · omega
        · refine .inr (.inl ⟨?_, ?_, ?_, hne (by omega)⟩)
          · rw [hc, e1, e2, e3, e4]; rfl
          · omega
          · omega
        · refine .inr (.inr ⟨?_, heq h1 h2 h3 h4, ?_, ?_⟩)
          · rw [hc, e1, e2, e3, e4]; rfl
          · omega
          · omega
theorem nan32_calls (a : Int) (w : World) : Calls Try.prog 179 #[.int .u32 a] w fun e w' => e = .returned (.bool false) ∧ w = w' := by
  go_enter Try.func179, Try.ntmps179
  go_wp2_with fail
  go_ret
  exact ⟨by simp, rfl⟩
theorem nan16_calls (a : Int) (w : World) : Calls Try.prog 180 #[.int .u16 a] w fun e w' => e = .returned (.bool false) ∧ w = w' := by
  go_enter Try.func180, Try.ntmps180
  go_wp2_with fail
  go_ret
  exact ⟨by simp, rfl⟩
theorem cmp32_calls (a b : Int) (w : World) : Calls Try.prog 128 #[.int .u32 a, .int .u32 b] w fun e w' => e = .returned (.int .i64 (cmpI a b)) ∧ w = w' := by
  rcases cmpI_cases a b with ⟨h, e⟩ | ⟨h, e⟩ | ⟨h, e⟩
  · rw [e]
    clear e
    go_enter Try.func128, Try.ntmps128
    go_wp2_with fail
    refine (nan32_calls a w).mono ?_
    rintro e w1 ⟨rfl, rfl⟩
    go_wp2_with fail
    refine (nan32_calls b w).mono ?_
    rintro e w1 ⟨rfl, rfl⟩
    go_wp2_with fail
    go_ret
    exact ⟨rfl, rfl⟩
  · rw [e]
    clear e
    have h2 : ¬ a < b := by omega
    go_enter Try.func128, Try.ntmps128
    go_wp2_with fail
    refine (nan32_calls a w).mono ?_
    rintro e w1 ⟨rfl, rfl⟩
    go_wp2_with fail
    refine (nan32_calls b w).mono ?_
    rintro e w1 ⟨rfl, rfl⟩
    go_wp2_with fail
    go_ret
    exact ⟨rfl, rfl⟩
  · rw [e]
    clear e
    have h2 : ¬ a < b := by omega
    have h3 : ¬ b < a := by omega
    clear h
    go_enter Try.func128, Try.ntmps128
    go_wp2_with fail
    refine (nan32_calls a w).mono ?_
    rintro e w1 ⟨rfl, rfl⟩
    go_wp2_with fail
    refine (nan32_calls b w).mono ?_
    rintro e w1 ⟨rfl, rfl⟩
    go_wp2_with fail
    go_ret
    exact ⟨rfl, rfl⟩
theorem cmp16_calls (a b : Int) (w : World) : Calls Try.prog 129 #[.int .u16 a, .int .u16 b] w fun e w' => e = .returned (.int .i64 (cmpI a b)) ∧ w = w' := by
  rcases cmpI_cases a b with ⟨h, e⟩ | ⟨h, e⟩ | ⟨h, e⟩
  · rw [e]
    clear e
    go_enter Try.func129, Try.ntmps129
    go_wp2_with fail
    refine (nan16_calls a w).mono ?_
    rintro e w1 ⟨rfl, rfl⟩
    go_wp2_with fail
    refine (nan16_calls b w).mono ?_
    rintro e w1 ⟨rfl, rfl⟩
    go_wp2_with fail
    go_ret
    exact ⟨rfl, rfl⟩
  · rw [e]
    clear e
    have h2 : ¬ a < b := by omega
    go_enter Try.func129, Try.ntmps129
    go_wp2_with fail
    refine (nan16_calls a w).mono ?_
    rintro e w1 ⟨rfl, rfl⟩
    go_wp2_with fail
    refine (nan16_calls b w).mono ?_
    rintro e w1 ⟨rfl, rfl⟩
    go_wp2_with fail
    go_ret
    exact ⟨rfl, rfl⟩
  · rw [e]
    clear e
    have h2 : ¬ a < b := by omega
    have h3 : ¬ b < a := by omega
    clear h
    go_enter Try.func129, Try.ntmps129
    go_wp2_with fail
    refine (nan16_calls a w).mono ?_
    rintro e w1 ⟨rfl, rfl⟩
    go_wp2_with fail
    refine (nan16_calls b w).mono ?_
    rintro e w1 ⟨rfl, rfl⟩
    go_wp2_with fail
    go_ret
    exact ⟨rfl, rfl⟩
def at4 (a b c d : Int) (j : Nat) : Int := match j with | 0 => a | 1 => b | 2 => c | _ => d
set_option maxHeartbeats 1000000 in
theorem or_calls (g : Nat) (a b c d : Int) (w : World) (h : w.heap[g]? = some (.cells #[.int .i64 a, .int .i64 b, .int .i64 c, .int .i64 d] 3 (0, 0))) :
    Calls Try.prog 127 #[.slice (some ⟨g, 0, none⟩) 4 4] w fun e w' => e = .returned (.int .i64 (orI a b c d)) ∧ w = w' := by
  have HC : Hid (∀ j : Nat, j < 4 → w.cell? ⟨g, j, none⟩ = some (.int .i64 (at4 a b c d j))) := Lib.hid fun j hj => by
    rcases j with _ | _ | _ | _ | j
    · exact blk_cell (i := 0) h (Ext.refl _) rfl
    · exact blk_cell (i := 1) h (Ext.refl _) rfl
    · exact blk_cell (i := 2) h (Ext.refl _) rfl
    · exact blk_cell (i := 3) h (Ext.refl _) rfl
    · omega
  clear h
  obtain ⟨r, hr⟩ : ∃ r, r = orI a b c d := ⟨_, rfl⟩
  have HR := Lib.hid hr
  rw [← hr]
  clear hr
  go_enter Try.func127, Try.ntmps127
  go_wp2_with fail
  go_loop [5, 8] (fun _ i => ∃ j : Nat, i = .int .i64 j ∧ j ≤ 4 ∧ ∀ k : Nat, k < j → at4 a b c d k = 0) (fun _ i => 4 - (intOf i).toNat)
  case atStart => exact ⟨0, rfl, Nat.zero_le _, fun k hk => by omega⟩
  case round =>
    obtain ⟨j, rfl, hj, h0⟩ := hrel
    by_cases hlt : j < 4
    · have hc := HC.out j hlt
      obtain ⟨x, hx⟩ : ∃ x, x = at4 a b c d j := ⟨_, rfl⟩
      rw [← hx] at hc
      have HX := Lib.hid hx
      have H0 := Lib.hid h0
      clear hx h0
      by_cases hx0 : x = 0
      · subst hx0
        go_wp2_with fail
        go_round
        case rel => exact ⟨j + 1, by go_num, by omega, fun k hk => by
          by_cases hkj : k = j
          · subst hkj; exact HX.out.symm
          · exact H0.out k (by omega)⟩
        case measure => (simp [intOf]; try omega)
      · go_wp2_with fail
        go_ret
        have hx1 := HX.out
        have e : orI a b c d = x := by
          unfold orI
          rcases j with _ | _ | _ | _ | j
          · rw [hx1] at hx0 ⊢; exact if_neg hx0
          · have k0 : a = 0 := H0.out 0 (by omega)
            rw [hx1] at hx0 ⊢
            rw [if_pos k0]; exact if_neg hx0
          · have k0 : a = 0 := H0.out 0 (by omega)
            have k1 : b = 0 := H0.out 1 (by omega)
            rw [hx1] at hx0 ⊢
            rw [if_pos k0, if_pos k1]; exact if_neg hx0
          · have k0 : a = 0 := H0.out 0 (by omega)
            have k1 : b = 0 := H0.out 1 (by omega)
            have k2 : c = 0 := H0.out 2 (by omega)
            rw [hx1, if_pos k0, if_pos k1, if_pos k2]; rfl
          · omega
        exact ⟨by rw [HR.out, e]; rfl, rfl⟩
    · obtain rfl : j = 4 := by omega
      have k0 : a = 0 := h0 0 (by omega)
      have k1 : b = 0 := h0 1 (by omega)
      have k2 : c = 0 := h0 2 (by omega)
      have k3 : d = 0 := h0 3 (by omega)
      have K0 := Lib.hid k0
      have K1 := Lib.hid k1
      have K2 := Lib.hid k2
      have K3 := Lib.hid k3
      clear h0 hlt hj k0 k1 k2 k3
      go_wp2_with fail
      go_ret
      have e : orI a b c d = 0 := by unfold orI; rw [if_pos K0.out, if_pos K1.out, if_pos K2.out]; exact K3.out
      exact ⟨by rw [HR.out, e]; rfl, rfl⟩
set_option maxRecDepth 100000 in
set_option maxHeartbeats 1000000 in
theorem compare_calls (s t : Sh) (w : World) : Calls Try.prog 56 #[shV s, shV t] w fun e w' => e = .returned (.int .i64 (cmpS s t)) ∧ Ext w w' := by
  obtain ⟨r, hr⟩ : ∃ r, r = cmpS s t := ⟨_, rfl⟩
  have HR := Lib.hid hr
  rw [← hr]
  clear hr
  have e0 := Lib.hid (Ext.new w (.cells #[.int .u32 s.o, .int .u16 s.st, .int .u16 s.sl, .int .u32 s.g] 111))
  have hb0 := at_new w (.cells #[.int .u32 s.o, .int .u16 s.st, .int .u16 s.sl, .int .u32 s.g] 111)
  have hz0 : (w.alloc (.cells #[.int .u32 s.o, .int .u16 s.st, .int .u16 s.sl, .int .u32 s.g] 111)).heap.size = w.heap.size + 1 := by simp
  go_enter Try.func56, Try.ntmps56
  go_upto_region 1 with fail
  generalize w.alloc (.cells #[.int .u32 s.o, .int .u16 s.st, .int .u16 s.sl, .int .u32 s.g] 111) = w0 at *
  have e1 := Lib.hid (Ext.new w0 (.cells #[.int .u32 t.o, .int .u16 t.st, .int .u16 t.sl, .int .u32 t.g] 111))
  have hb1 := at_new w0 (.cells #[.int .u32 t.o, .int .u16 t.st, .int .u16 t.sl, .int .u32 t.g] 111)
  have hb2 := e1.out.at_ hb0
  rw [hz0] at hb1
  generalize w0.alloc (.cells #[.int .u32 t.o, .int .u16 t.st, .int .u16 t.sl, .int .u32 t.g] 111) = wa at *
  have a0 : ∀ W, Ext wa.drew W → W.cell? ⟨w.heap.size, 0, none⟩ = some (.int .u32 s.o) := fun W hW => blk_cell (i := 0) hb2 (drew_ext hW) rfl
  have a1 : ∀ W, Ext wa.drew W → W.cell? ⟨w.heap.size, 1, none⟩ = some (.int .u16 s.st) := fun W hW => blk_cell (i := 1) hb2 (drew_ext hW) rfl
  have a2 : ∀ W, Ext wa.drew W → W.cell? ⟨w.heap.size, 2, none⟩ = some (.int .u16 s.sl) := fun W hW => blk_cell (i := 2) hb2 (drew_ext hW) rfl
  have a3 : ∀ W, Ext wa.drew W → W.cell? ⟨w.heap.size, 3, none⟩ = some (.int .u32 s.g) := fun W hW => blk_cell (i := 3) hb2 (drew_ext hW) rfl
  have b0 : ∀ W, Ext wa.drew W → W.cell? ⟨w.heap.size + 1, 0, none⟩ = some (.int .u32 t.o) := fun W hW => blk_cell (i := 0) hb1 (drew_ext hW) rfl
  have b1 : ∀ W, Ext wa.drew W → W.cell? ⟨w.heap.size + 1, 1, none⟩ = some (.int .u16 t.st) := fun W hW => blk_cell (i := 1) hb1 (drew_ext hW) rfl
  have b2 : ∀ W, Ext wa.drew W → W.cell? ⟨w.heap.size + 1, 2, none⟩ = some (.int .u16 t.sl) := fun W hW => blk_cell (i := 2) hb1 (drew_ext hW) rfl
  have b3 : ∀ W, Ext wa.drew W → W.cell? ⟨w.heap.size + 1, 3, none⟩ = some (.int .u32 t.g) := fun W hW => blk_cell (i := 3) hb1 (drew_ext hW) rfl
  have HE := Lib.hid (e0.out.trans e1.out)
  clear hb0 hb1 hb2 hz0 e0 e1
  go_wp2_with fail
  refine Lex.wp_region_u [0, 1, 2, 3, 4, 5, 6, 7, 8, 9, 10, 11, 12, 13, 14, 15, 16, 17, 18, 19, 20, 21, 22] [] [(4, .const (.int .i64 (cmpI s.o t.o))), (9, .const (.int .i64 (cmpI s.st t.st))), (14, .const (.int .i64 (cmpI s.sl t.sl))), (19, .const (.int .i64 (cmpI s.g t.g))), (21, .const (.int .i64 r))] (by kernel_rfl) (by kernel_rfl) (by repeat (first | exact Lex.st_nil | refine Lex.st_cons (by first | exact Lex.nums_st | exact Lex.const_st | exact Lex.such_st | exact Lex.row_st | exact Lex.rowE_st | exact Lex.litR_st | assumption) ?_)) ?_; simp only [Lex.pick, List.getElem?_cons_succ, List.getElem?_cons_zero, List.map_nil]
  repeat (first | (refine Lex.lexU_skip (by rfl) ?_; simp only [Act.put, List.setIfInBounds_toArray, List.set_cons_zero, List.set_cons_succ]) | (refine Lex.lexU_still (by rfl) (by rfl) (by first | exact Base.Ext.refl | exact Lex.Fill.refl) ?_; apply Exists.intro; refine ⟨fun W hW => ?_, ?_⟩; (have hE := Lex.ext_of_cls hW.1; have hE2 := Lex.ext_drew hE; clear hW; go_simp; try with_reducible rfl); simp only [Act.put, List.setIfInBounds_toArray, List.set_cons_zero, List.set_cons_succ]))
  refine Lex.lexU_loose (by rfl) (by rfl) (fun W hW => ?_) ?_
  · clear hW
    go_simp
    refine (cmp32_calls s.o t.o _).mono ?_
    rintro e w9 ⟨rfl, rfl⟩
    exact ⟨_, rfl, rfl, Ext.refl _, trivial⟩
  rintro v rfl
  simp only [Act.put, List.setIfInBounds_toArray, List.set_cons_zero, List.set_cons_succ]
  repeat (first | (refine Lex.lexU_skip (by rfl) ?_; simp only [Act.put, List.setIfInBounds_toArray, List.set_cons_zero, List.set_cons_succ]) | (refine Lex.lexU_still (by rfl) (by rfl) (by first | exact Base.Ext.refl | exact Lex.Fill.refl) ?_; apply Exists.intro; refine ⟨fun W hW => ?_, ?_⟩; (have hE := Lex.ext_of_cls hW.1; have hE2 := Lex.ext_drew hE; clear hW; go_simp; try with_reducible rfl); simp only [Act.put, List.setIfInBounds_toArray, List.set_cons_zero, List.set_cons_succ]))
  refine Lex.lexU_loose (by rfl) (by rfl) (fun W hW => ?_) ?_
  · clear hW
    go_simp
    refine (cmp16_calls s.st t.st _).mono ?_
    rintro e w9 ⟨rfl, rfl⟩
    exact ⟨_, rfl, rfl, Ext.refl _, trivial⟩
  rintro v rfl
  simp only [Act.put, List.setIfInBounds_toArray, List.set_cons_zero, List.set_cons_succ]
  repeat (first | (refine Lex.lexU_skip (by rfl) ?_; simp only [Act.put, List.setIfInBounds_toArray, List.set_cons_zero, List.set_cons_succ]) | (refine Lex.lexU_still (by rfl) (by rfl) (by first | exact Base.Ext.refl | exact Lex.Fill.refl) ?_; apply Exists.intro; refine ⟨fun W hW => ?_, ?_⟩; (have hE := Lex.ext_of_cls hW.1; have hE2 := Lex.ext_drew hE; clear hW; go_simp; try with_reducible rfl); simp only [Act.put, List.setIfInBounds_toArray, List.set_cons_zero, List.set_cons_succ]))
  refine Lex.lexU_loose (by rfl) (by rfl) (fun W hW => ?_) ?_
  · clear hW
    go_simp
    refine (cmp16_calls s.sl t.sl _).mono ?_
    rintro e w9 ⟨rfl, rfl⟩
    exact ⟨_, rfl, rfl, Ext.refl _, trivial⟩
  rintro v rfl
  simp only [Act.put, List.setIfInBounds_toArray, List.set_cons_zero, List.set_cons_succ]
  repeat (first | (refine Lex.lexU_skip (by rfl) ?_; simp only [Act.put, List.setIfInBounds_toArray, List.set_cons_zero, List.set_cons_succ]) | (refine Lex.lexU_still (by rfl) (by rfl) (by first | exact Base.Ext.refl | exact Lex.Fill.refl) ?_; apply Exists.intro; refine ⟨fun W hW => ?_, ?_⟩; (have hE := Lex.ext_of_cls hW.1; have hE2 := Lex.ext_drew hE; clear hW; go_simp; try with_reducible rfl); simp only [Act.put, List.setIfInBounds_toArray, List.set_cons_zero, List.set_cons_succ]))
  refine Lex.lexU_loose (by rfl) (by rfl) (fun W hW => ?_) ?_
  · clear hW
    go_simp
    refine (cmp32_calls s.g t.g _).mono ?_
    rintro e w9 ⟨rfl, rfl⟩
    exact ⟨_, rfl, rfl, Ext.refl _, trivial⟩
  rintro v rfl
  simp only [Act.put, List.setIfInBounds_toArray, List.set_cons_zero, List.set_cons_succ]
  repeat (first | (refine Lex.lexU_skip (by rfl) ?_; simp only [Act.put, List.setIfInBounds_toArray, List.set_cons_zero, List.set_cons_succ]) | (refine Lex.lexU_still (by rfl) (by rfl) (by first | exact Base.Ext.refl | exact Lex.Fill.refl) ?_; apply Exists.intro; refine ⟨fun W hW => ?_, ?_⟩; (have hE := Lex.ext_of_cls hW.1; have hE2 := Lex.ext_drew hE; clear hW; go_simp; try with_reducible rfl); simp only [Act.put, List.setIfInBounds_toArray, List.set_cons_zero, List.set_cons_succ]))
  refine Lex.lexU_such (by rfl) (by rfl) (Lex.blkL 4 3 #[.int .i64 (cmpI s.o t.o), .int .i64 (cmpI s.st t.st), .int .i64 (cmpI s.sl t.sl), .int .i64 (cmpI s.g t.g)]) (Lex.blkL_st) (fun W hW => ?_) ?_
  · clear hW
    go_simp
    exact ⟨⟨_, rfl⟩, Ext.new _ _, Lex.blkL_mk⟩
  rintro v ⟨g6, rfl⟩
  simp only [Act.put, List.setIfInBounds_toArray, List.set_cons_zero, List.set_cons_succ]
  repeat (first | (refine Lex.lexU_skip (by rfl) ?_; simp only [Act.put, List.setIfInBounds_toArray, List.set_cons_zero, List.set_cons_succ]) | (refine Lex.lexU_still (by rfl) (by rfl) (by first | exact Base.Ext.refl | exact Lex.Fill.refl) ?_; apply Exists.intro; refine ⟨fun W hW => ?_, ?_⟩; (have hE := Lex.ext_of_cls hW.1; have hE2 := Lex.ext_drew hE; clear hW; go_simp; try with_reducible rfl); simp only [Act.put, List.setIfInBounds_toArray, List.set_cons_zero, List.set_cons_succ]))
  refine Lex.lexU_loose (by rfl) (by rfl) (fun W hW => ?_) ?_
  · have h6 := Lex.upd_here (hW.2 20 (by kernel_rfl)) _ rfl
    clear hW
    go_simp
    refine (or_calls g6 _ _ _ _ _ h6).mono ?_
    rintro e w9 ⟨rfl, rfl⟩
    exact ⟨_, rfl, by rw [HR.out]; rfl, Ext.refl _, trivial⟩
  rintro v rfl
  simp only [Act.put, List.setIfInBounds_toArray, List.set_cons_zero, List.set_cons_succ]
  repeat (first | (refine Lex.lexU_skip (by rfl) ?_; simp only [Act.put, List.setIfInBounds_toArray, List.set_cons_zero, List.set_cons_succ]) | (refine Lex.lexU_still (by rfl) (by rfl) (by first | exact Base.Ext.refl | exact Lex.Fill.refl) ?_; apply Exists.intro; refine ⟨fun W hW => ?_, ?_⟩; (have hE := Lex.ext_of_cls hW.1; have hE2 := Lex.ext_drew hE; clear hW; go_simp; try with_reducible rfl); simp only [Act.put, List.setIfInBounds_toArray, List.set_cons_zero, List.set_cons_succ]))
  refine Lex.lexU_nil (fun W hW => ?_)
  have hE := Lib.hid (HE.out.trans (Lex.ext_drew hW.1))
  clear hW
  refine Lex.onlyN_intro ?_
  go_wp2_with fail
  go_ret
  exact ⟨rfl, hE.out⟩
set_option maxRecDepth 100000 in
set_option maxHeartbeats 1000000 in
theorem less_calls (s t : Sh) (w : World) : Calls Try.prog 57 #[shV s, shV t] w fun e w' => e = .returned (.bool (lessS s t)) ∧ Ext w w' := by
  obtain ⟨r, hr⟩ : ∃ r, r = lessS s t := ⟨_, rfl⟩
  have HR := Lib.hid hr
  rw [← hr]
  clear hr
  have e0 := Lib.hid (Ext.new w (.cells #[.int .u32 s.o, .int .u16 s.st, .int .u16 s.sl, .int .u32 s.g] 111))
  have hb0 := at_new w (.cells #[.int .u32 s.o, .int .u16 s.st, .int .u16 s.sl, .int .u32 s.g] 111)
  have hz0 : (w.alloc (.cells #[.int .u32 s.o, .int .u16 s.st, .int .u16 s.sl, .int .u32 s.g] 111)).heap.size = w.heap.size + 1 := by simp
  go_enter Try.func57, Try.ntmps57
  go_upto_region 1 with fail
  generalize w.alloc (.cells #[.int .u32 s.o, .int .u16 s.st, .int .u16 s.sl, .int .u32 s.g] 111) = w0 at *
  have e1 := Lib.hid (Ext.new w0 (.cells #[.int .u32 t.o, .int .u16 t.st, .int .u16 t.sl, .int .u32 t.g] 111))
  have hb1 := at_new w0 (.cells #[.int .u32 t.o, .int .u16 t.st, .int .u16 t.sl, .int .u32 t.g] 111)
  have hb2 := e1.out.at_ hb0
  rw [hz0] at hb1
  generalize w0.alloc (.cells #[.int .u32 t.o, .int .u16 t.st, .int .u16 t.sl, .int .u32 t.g] 111) = wa at *
  have a0 : wa.cell? ⟨w.heap.size, 0, none⟩ = some (.int .u32 s.o) := blk_cell (i := 0) hb2 (Ext.refl _) rfl
  have a1 : wa.cell? ⟨w.heap.size, 1, none⟩ = some (.int .u16 s.st) := blk_cell (i := 1) hb2 (Ext.refl _) rfl
  have a2 : wa.cell? ⟨w.heap.size, 2, none⟩ = some (.int .u16 s.sl) := blk_cell (i := 2) hb2 (Ext.refl _) rfl
  have a3 : wa.cell? ⟨w.heap.size, 3, none⟩ = some (.int .u32 s.g) := blk_cell (i := 3) hb2 (Ext.refl _) rfl
  have b0 : wa.cell? ⟨w.heap.size + 1, 0, none⟩ = some (.int .u32 t.o) := blk_cell (i := 0) hb1 (Ext.refl _) rfl
  have b1 : wa.cell? ⟨w.heap.size + 1, 1, none⟩ = some (.int .u16 t.st) := blk_cell (i := 1) hb1 (Ext.refl _) rfl
  have b2 : wa.cell? ⟨w.heap.size + 1, 2, none⟩ = some (.int .u16 t.sl) := blk_cell (i := 2) hb1 (Ext.refl _) rfl
  have b3 : wa.cell? ⟨w.heap.size + 1, 3, none⟩ = some (.int .u32 t.g) := blk_cell (i := 3) hb1 (Ext.refl _) rfl
  have HE := Lib.hid (e0.out.trans e1.out)
  clear hb0 hb1 hb2 hz0 e0 e1
  by_cases h1 : s.o = t.o
  · by_cases h2 : s.st = t.st
    · by_cases h3 : s.sl = t.sl
      · go_wp2_with fail
        go_ret
        exact ⟨by rw [HR.out, lessS, if_pos h1, if_pos h2, if_pos h3]; rfl, HE.out⟩
      · go_wp2_with fail
        go_ret
        exact ⟨by rw [HR.out, lessS, if_pos h1, if_pos h2, if_neg h3]; rfl, HE.out⟩
    · go_wp2_with fail
      go_ret
      exact ⟨by rw [HR.out, lessS, if_pos h1, if_neg h2]; rfl, HE.out⟩
  · go_wp2_with fail
    go_ret
    exact ⟨by rw [HR.out, lessS, if_neg h1]; rfl, HE.out⟩
end Go.Proofs.Ytipmkddcdnbihaa.Vault
