import Derived.Test.YtfhgjopoohfhjaaStep
import Derived.Test.YtfhgjopoohfhjaaTapeP
import Derived.Outline
namespace Go.Proofs.Ytfhgjopoohfhjaa.Tape
open Go.RowKit Base Step
open TapeP (kept crash turn)

structure TapeIs (w : World) (S : Nat → Prop) (g : Nat) (A : Option Addr) (n c : Nat) (xs : List Int) (safe : Nat) (most : Int) : Prop where
  at_ : w.heap[g]? = some (.cells #[.slice A n c, .int .i64 safe, .int .i64 most] 180 (0, 0))
  own : Own w S 5 1 (.slice A n c) n (nums .u8 xs)
  foot : S g
  wf : ∀ x ∈ xs, (Lit.int .u8 x).wf = true
  lt : ∀ i, S i → i < w.heap.size
  safe : safe ≤ n
  most : (n : Int) ≤ most ∧ most ≤ 9223372036854775807
/-- A tape at block g, all of it in blocks of S: its bytes, how many are safe, and for how many there is room. -/
def Tape (w : World) (S : Nat → Prop) (g : Nat) (xs : List Int) (safe : Nat) (most : Int) : Prop := ∃ A n c, TapeIs w S g A n c xs safe most
theorem TapeIs.len {w : World} {S : Nat → Prop} {g : Nat} {A : Option Addr} {n c : Nat} {xs : List Int} {safe : Nat} {most : Int} (h : TapeIs w S g A n c xs safe most) : xs.length = n := by
  have := h.own.row.1
  simpa [nums] using this
theorem TapeIs.ext {w w' : World} {S : Nat → Prop} {g : Nat} {A : Option Addr} {n c : Nat} {xs : List Int} {safe : Nat} {most : Int} (h : TapeIs w S g A n c xs safe most) (he : Ext w w') : TapeIs w' S g A n c xs safe most :=
  ⟨he.at_ h.at_, h.own.extNew he, h.foot, h.wf, fun i hi => he.lt (h.lt i hi), h.safe, h.most⟩
theorem TapeIs.cells {w : World} {S : Nat → Prop} {g : Nat} {A : Option Addr} {n c : Nat} {xs : List Int} {safe : Nat} {most : Int} (h : TapeIs w S g A n c xs safe most) :
    (∀ W, Ext w W → W.cell? ⟨g, 0, none⟩ = some (.slice A n c)) ∧ (∀ W, Ext w W → W.cell? ⟨g, 1, none⟩ = some (.int .i64 safe)) ∧ (∀ W, Ext w W → W.cell? ⟨g, 2, none⟩ = some (.int .i64 most)) :=
  ⟨fun _ he => blk_cell h.at_ he rfl, fun _ he => blk_cell h.at_ he rfl, fun _ he => blk_cell h.at_ he rfl⟩
theorem Tape.ext {w w' : World} {S : Nat → Prop} {g : Nat} {xs : List Int} {safe : Nat} {most : Int} (h : Tape w S g xs safe most) (he : Ext w w') : Tape w' S g xs safe most := by
  obtain ⟨A, n, c, h⟩ := h
  exact ⟨A, n, c, he.at_ h.at_, h.own.extNew he, h.foot, h.wf, fun i hi => he.lt (h.lt i hi), h.safe, h.most⟩
theorem Tape.chg {w w' : World} {S S2 : Nat → Prop} {g : Nat} {xs : List Int} {safe : Nat} {most : Int} (h : Tape w S g xs safe most) (hc : Chg S2 w w') (hd : ∀ i, S i → ¬ S2 i) : Tape w' S g xs safe most := by
  obtain ⟨A, n, c, h⟩ := h
  exact ⟨A, n, c, hc.at_ h.at_ (hd _ h.foot), h.own.chg hc hd, h.foot, h.wf, fun i hi => Nat.lt_of_lt_of_le (h.lt i hi) hc.size, h.safe, h.most⟩
theorem Tape.lt {w : World} {S : Nat → Prop} {g : Nat} {xs : List Int} {safe : Nat} {most : Int} (h : Tape w S g xs safe most) : ∀ i, S i → i < w.heap.size := by
  obtain ⟨A, n, c, h⟩ := h
  exact h.lt
theorem Tape.wf {w : World} {S : Nat → Prop} {g : Nat} {xs : List Int} {safe : Nat} {most : Int} (h : Tape w S g xs safe most) : ∀ x ∈ xs, (Lit.int .u8 x).wf = true := by
  obtain ⟨A, n, c, h⟩ := h
  exact h.wf
theorem Tape.safe_le {w : World} {S : Nat → Prop} {g : Nat} {xs : List Int} {safe : Nat} {most : Int} (h : Tape w S g xs safe most) : safe ≤ xs.length := by
  obtain ⟨A, n, c, h⟩ := h
  rw [h.len]
  exact h.safe

set_option maxRecDepth 100000 in
theorem new_calls (most : Int) (w : World) (hm : (Lit.int .i64 most).wf = true) :
    Calls Try.prog 21 #[.int .i64 most] w fun e w' => e = .returned (.pointer (some ⟨w.heap.size, 0, none⟩)) ∧ Ext w w' ∧ Tape w' (fun i => i = w.heap.size) w.heap.size [] 0 (max most 0) := by
  obtain ⟨h0, h1⟩ := wf_i64 hm
  go_enter Try.func21, Try.ntmps21
  go_wp2_with fail
  all_goals
    go_ret
    first | rw [show max most 0 = 0 by omega] | rw [show max most 0 = most by omega]
    exact ⟨rfl, Ext.new _ _, none, 0, 0, at_new _ _, Own.nil _ _ _ _, rfl, by simp, by intro i hi; subst hi; simp, Nat.le_refl _, by omega, by omega⟩

set_option maxRecDepth 100000 in
set_option maxHeartbeats 400000 in
theorem read_calls (S : Nat → Prop) (g : Nat) (xs : List Int) (safe : Nat) (most : Int) (w : World) (h : Tape w S g xs safe most) (hx : xs.length ≤ 1099511627776) :
    Calls Try.prog 42 #[.pointer (some ⟨g, 0, none⟩)] w fun e w' => Ext w w' ∧ ∃ A' c', e = .returned (.slice A' xs.length c') ∧ New w w' 5 1 A' xs.length c' (nums .u8 xs) := by
  obtain ⟨A, n, c, h⟩ := h
  obtain rfl := h.len
  have c0 := blk_cell (i := 0) h.at_ (Ext.refl w) rfl
  go_enter Try.func42, Try.ntmps42
  go_wp2_with fail
  refine (clone8 A xs.length c xs _ (h.own.rd h.wf) (by omega)).mono ?_
  rintro e w1 ⟨he1, A1, c1, rfl, ho1⟩
  go_wp2_with fail
  go_ret
  exact ⟨he1, A1, c1, rfl, ho1⟩

theorem TapeIs.put {w : World} {S' : Nat → Prop} {g : Nat} {A A' : Option Addr} {n c n' c' : Nat} {safe : Nat} {most : Int} {xs : List Int} (hb : w.heap[g]? = some (.cells #[.slice A n c, .int .i64 safe, .int .i64 most] 180 (0, 0)))
    (ho : Own w S' 5 1 (.slice A' n' c') n' (nums .u8 xs)) (hS : S' g) (hlt : ∀ i, S' i → i < w.heap.size) (hw : ∀ x ∈ xs, (Lit.int .u8 x).wf = true) (hs : safe ≤ n') (hm : (n' : Int) ≤ most ∧ most ≤ 9223372036854775807) :
    TapeIs (w.setCell ⟨g, 0, none⟩ (.slice A' n' c')) S' g A' n' c' xs safe most :=
  ⟨set_blk hb _, ho.keep fun i hi => Below.heap_setCell _ _ _ _ fun e => ho.ne hb (by decide) (by rw [hi, e]), hS, hw, fun i hi => by simpa using hlt i hi, hs, hm⟩
theorem TapeIs.sync {w : World} {S : Nat → Prop} {g : Nat} {A : Option Addr} {n c : Nat} {safe safe' : Nat} {most : Int} {xs : List Int} (h : TapeIs w S g A n c xs safe most) (hs : safe' ≤ n) :
    TapeIs (w.setCell ⟨g, 1, none⟩ (.int .i64 safe')) S g A n c xs safe' most :=
  ⟨set_blk h.at_ _, h.own.keep fun i hi => Below.heap_setCell _ _ _ _ fun e => h.own.ne h.at_ (by decide) (by rw [hi, e]), h.foot, h.wf, fun i hi => by simpa using h.lt i hi, hs, h.most⟩

set_option maxRecDepth 100000 in
set_option maxHeartbeats 400000 in
theorem sync_calls (S : Nat → Prop) (g : Nat) (xs : List Int) (safe : Nat) (most : Int) (w : World) (h : Tape w S g xs safe most) :
    Calls Try.prog 101 #[.pointer (some ⟨g, 0, none⟩)] w fun e w' => e = .returned (.int .i64 0) ∧ Tape w' S g xs xs.length most ∧ Step S S w w' := by
  obtain ⟨A, n, c, h⟩ := h
  obtain rfl := h.len
  have c0 := blk_cell (i := 0) h.at_ (Ext.refl w) rfl
  have c1 := blk_cell (i := 1) h.at_ (Ext.refl w) rfl
  have f1 := blk_free h.at_ (Ext.refl w) 1
  go_enter Try.func101, Try.ntmps101
  go_wp2_with fail
  go_ret
  exact ⟨rfl, ⟨A, _, c, h.sync (Nat.le_refl _)⟩, (Chg.refl _ _).setCell (p := ⟨g, 1, none⟩) h.foot _, fun _ h => .inl h⟩

set_option maxRecDepth 100000 in
set_option maxHeartbeats 400000 in
theorem append_calls (S : Nat → Prop) (g : Nat) (xs : List Int) (safe : Nat) (most : Int) (B : Option Addr) (m d : Nat) (ys : List Int) (w : World) (h : Tape w S g xs safe most) (hr : Rd w .u8 B m ys) (hx : xs.length ≤ 1099511627776) (hm : m ≤ 1099511627776) (hfit : (xs.length : Int) + m ≤ most) :
    Calls Try.prog 102 #[.pointer (some ⟨g, 0, none⟩), .slice B m d] w fun e w' => e = .returned (.int .i64 0) ∧ ∃ S', Tape w' S' g (xs ++ ys) safe most ∧ Step S S' w w' := by
  obtain ⟨A, n, c, h⟩ := h
  obtain rfl := h.len
  have hm0 := h.most.1
  have hm1 := h.most.2
  have d0 : ∀ W, Ext w.drew W → W.cell? ⟨g, 0, none⟩ = some (.slice A xs.length c) := fun W hW => blk_cell h.at_ (drew_ext hW) rfl
  have d2 : ∀ W, Ext w.drew W → W.cell? ⟨g, 2, none⟩ = some (.int .i64 most) := fun W hW => blk_cell h.at_ (drew_ext hW) rfl
  have w1 : IntKind.i64.wrap (most - (xs.length : Int)) = most - xs.length := IntWalk.i64_in _ (by omega)
  go_enter Try.func102, Try.ntmps102
  go_wp2_with fail
  refine Lex.wp_region_ext [] (by kernel_rfl) (by kernel_rfl) (by repeat (first | exact Lex.st_nil | refine Lex.st_cons (by first | exact Lex.nums_st | exact Lex.const_st | exact Lex.such_st | exact Lex.row_st | exact Lex.rowE_st | exact Lex.litR_st | assumption) ?_)) ?_
  repeat (first | (refine Lex.lex_skip (by rfl) ?_; simp only [Act.put, List.setIfInBounds_toArray, List.set_cons_zero, List.set_cons_succ]) | (refine Lex.lex_still (by rfl) (by rfl) ?_; apply Exists.intro; refine ⟨fun W hW => ?_, ?_⟩; (have hE := hW.1; have hE2 := Base.Ext.trans (Base.Ext.drew (Base.Ext.refl _)) hW.1; clear hW; go_simp; try with_reducible rfl); simp only [Act.put, List.setIfInBounds_toArray, List.set_cons_zero, List.set_cons_succ]))
  refine Lex.lex_nil (fun W hW => ?_)
  have hE := drew_ext hW.1
  have c0 := d0 W hW.1
  clear hW d0 d2 w1
  have hat := hE.at_ h.at_
  have hown := h.own.extNew hE
  go_wp2_with (at_builtin; refine wpList_app _ rfl _ _ _ rfl (fun i => S i ∨ W.heap.size ≤ i) 5 .u8 1 Try.underlying22 Pack.info_u8 (by decide) (.slice A xs.length c) _ xs rfl (hown.mono fun i _ hi => .inl hi) B m d ys rfl (hr.ext hE) ?c2 (fun i hi => .inr hi) ?_)
  case c2 => omega
  intro A2 c2 w2 ho2 hc2
  have hat2 := hc2.at_ hat (hown.ne hat (by decide))
  have hcell2 := blk_cell (i := 0) hat2 (Ext.refl w2) rfl
  have hf2 := Pack.free_of hat2 0
  have hlt2 := with_lt (S := S) ho2 (fun i hi => hE.lt (h.lt i hi)) hc2.size
  have hgr2 := with_grow ho2
  have hwf := wf_append h.wf hr.wf
  have hct : Chg S w w2 := (Below.chg hE).step hc2 fun i _ hi => hown.foot i hi
  clear hc2 hown c0
  go_wp2_with fail
  go_ret
  exact ⟨rfl, _, ⟨A2, _, c2, TapeIs.put hat2 (with_own ho2) (.inl h.foot) hlt2 hwf (by have := h.safe; omega) ⟨by omega, hm1⟩⟩, hct.setCell (p := ⟨g, 0, none⟩) h.foot _, fun i hi => (hgr2 i hi).imp id fun h2 => Nat.le_trans hE.size h2⟩

set_option maxRecDepth 100000 in
set_option maxHeartbeats 400000 in
theorem append_full (S : Nat → Prop) (g : Nat) (xs : List Int) (safe : Nat) (most : Int) (B : Option Addr) (m d : Nat) (w : World) (h : Tape w S g xs safe most) (hm : m ≤ 1099511627776) (hfit : most < (xs.length : Int) + m) :
    Calls Try.prog 102 #[.pointer (some ⟨g, 0, none⟩), .slice B m d] w fun e w' => e = .returned (.int .i64 20) ∧ Ext w w' := by
  obtain ⟨A, n, c, h⟩ := h
  obtain rfl := h.len
  have hm0 := h.most.1
  have hm1 := h.most.2
  have d0 : ∀ W, Ext w.drew W → W.cell? ⟨g, 0, none⟩ = some (.slice A xs.length c) := fun W hW => blk_cell h.at_ (drew_ext hW) rfl
  have d2 : ∀ W, Ext w.drew W → W.cell? ⟨g, 2, none⟩ = some (.int .i64 most) := fun W hW => blk_cell h.at_ (drew_ext hW) rfl
  have w1 : IntKind.i64.wrap (most - (xs.length : Int)) = most - xs.length := IntWalk.i64_in _ (by omega)
  go_enter Try.func102, Try.ntmps102
  go_wp2_with fail
  refine Lex.wp_region_ext [] (by kernel_rfl) (by kernel_rfl) (by repeat (first | exact Lex.st_nil | refine Lex.st_cons (by first | exact Lex.nums_st | exact Lex.const_st | exact Lex.such_st | exact Lex.row_st | exact Lex.rowE_st | exact Lex.litR_st | assumption) ?_)) ?_
  repeat (first | (refine Lex.lex_skip (by rfl) ?_; simp only [Act.put, List.setIfInBounds_toArray, List.set_cons_zero, List.set_cons_succ]) | (refine Lex.lex_still (by rfl) (by rfl) ?_; apply Exists.intro; refine ⟨fun W hW => ?_, ?_⟩; (have hE := hW.1; have hE2 := Base.Ext.trans (Base.Ext.drew (Base.Ext.refl _)) hW.1; clear hW; go_simp; try with_reducible rfl); simp only [Act.put, List.setIfInBounds_toArray, List.set_cons_zero, List.set_cons_succ]))
  refine Lex.lex_nil (fun W hW => ?_)
  have hE := drew_ext hW.1
  clear hW d0 d2 w1
  go_wp2_with fail
  go_ret
  exact ⟨rfl, hE⟩

set_option maxRecDepth 100000 in
set_option maxHeartbeats 400000 in
theorem back_calls (S : Nat → Prop) (g : Nat) (xs : List Int) (safe : Nat) (most : Int) (w : World) (h : Tape w S g xs safe most) :
    Calls Try.prog 104 #[.pointer (some ⟨g, 0, none⟩)] w fun e w' => e = .returned (.int .i64 (xs.length - safe)) ∧ Tape w' S g (xs.take safe) safe most ∧ Step S S w w' := by
  obtain ⟨A, n, c, h⟩ := h
  obtain rfl := h.len
  have hs := h.safe
  have hcap := h.own.cap.1
  have hm0 := h.most.1
  have hm1 := h.most.2
  obtain ⟨d0, d1, _⟩ := h.cells
  have i0 : (0 : Int) ≤ safe := by omega
  have i1 : (safe : Int) ≤ xs.length := by omega
  have i2 : (safe : Int) ≤ c := by omega
  have i3 : (xs.length : Int) ≤ c := by omega
  have w1 : IntKind.i64.wrap ((xs.length : Int) - safe) = xs.length - safe := IntWalk.i64_in _ (by omega)
  go_enter Try.func104, Try.ntmps104
  go_wp2_with fail
  refine Lex.wp_region_ext [] (by kernel_rfl) (by kernel_rfl) (by repeat (first | exact Lex.st_nil | refine Lex.st_cons (by first | exact Lex.nums_st | exact Lex.const_st | exact Lex.such_st | exact Lex.row_st | exact Lex.rowE_st | exact Lex.litR_st | assumption) ?_)) ?_
  repeat (first | (refine Lex.lex_skip (by rfl) ?_; simp only [Act.put, List.setIfInBounds_toArray, List.set_cons_zero, List.set_cons_succ]) | (refine Lex.lex_still (by rfl) (by rfl) ?_; apply Exists.intro; refine ⟨fun W hW => ?_, ?_⟩; (have hE := hW.1; have hE2 := Base.Ext.trans (Base.Ext.drew (Base.Ext.refl _)) hW.1; clear hW; go_simp; try with_reducible rfl); simp only [Act.put, List.setIfInBounds_toArray, List.set_cons_zero, List.set_cons_succ]))
  refine Lex.lex_nil (fun W hW => ?_)
  have hE := drew_ext hW.1
  replace h := h.ext hE
  obtain ⟨d0, d1, _⟩ := h.cells
  clear hW w1
  go_wp2_with fail
  refine Lex.wp_region_tail 12 [] (by kernel_rfl) (by kernel_rfl) (by repeat (first | exact Lex.st_nil | refine Lex.st_cons (by first | exact Lex.nums_st | exact Lex.const_st | exact Lex.such_st | exact Lex.row_st | exact Lex.rowE_st | exact Lex.litR_st | assumption) ?_)) ?_; simp only [List.take_succ_cons, List.take_zero, List.drop_succ_cons, List.drop_zero]
  repeat (first | (refine Lex.lexT_skip (by rfl) ?_; simp only [Act.put, List.setIfInBounds_toArray, List.set_cons_zero, List.set_cons_succ]) | (refine Lex.lexT_still (by rfl) (by rfl) ?_; apply Exists.intro; refine ⟨fun W hW => ?_, ?_⟩; (have hE := hW.1; have hE2 := Base.Ext.trans (Base.Ext.drew (Base.Ext.refl _)) hW.1; clear hW; go_simp; try with_reducible rfl); simp only [Act.put, List.setIfInBounds_toArray, List.set_cons_zero, List.set_cons_succ]))
  refine Lex.lexT_nil (fun W hW => ?_)
  have hE2 := drew_ext hW.1
  replace h := h.ext hE2
  have hf := blk_free h.at_ (Ext.refl _) 0
  have hq := h.cells.1 _ (Ext.refl _)
  clear hW d0 d1
  go_wp2_with fail
  go_ret
  exact ⟨rfl, ⟨A, safe, c, TapeIs.put h.at_ (own_take h.own hs) h.foot h.lt (fun x hx => h.wf x (List.mem_of_mem_take hx)) (Nat.le_refl _) ⟨by omega, hm1⟩⟩, (Chg.trans (Below.chg (hE.trans hE2)) ((Chg.refl _ _).setCell (p := ⟨g, 0, none⟩) h.foot _)), fun _ hi => .inl hi⟩

/-- A new row, and behind it a new count of safe bytes. -/
theorem TapeIs.put' {w : World} {S' : Nat → Prop} {g : Nat} {A A' : Option Addr} {n c n' c' : Nat} {safe : Nat} {most : Int} {xs : List Int} (hb : w.heap[g]? = some (.cells #[.slice A n c, .int .i64 safe, .int .i64 most] 180 (0, 0)))
    (ho : Own w S' 5 1 (.slice A' n' c') n' (nums .u8 xs)) (hS : S' g) (hlt : ∀ i, S' i → i < w.heap.size) (hw : ∀ x ∈ xs, (Lit.int .u8 x).wf = true) (safe' : Nat) (hs : safe' ≤ n') (hm : (n' : Int) ≤ most ∧ most ≤ 9223372036854775807) :
    ((w.setCell ⟨g, 0, none⟩ (.slice A' n' c')).cell? ⟨g, 0, none⟩ = some (.slice A' n' c') ∧ (w.setCell ⟨g, 0, none⟩ (.slice A' n' c')).cell? ⟨g, 1, none⟩ = some (.int .i64 safe) ∧ (w.setCell ⟨g, 0, none⟩ (.slice A' n' c')).frozen? ⟨g, 1, none⟩ = false) ∧
    TapeIs ((w.setCell ⟨g, 0, none⟩ (.slice A' n' c')).setCell ⟨g, 1, none⟩ (.int .i64 safe')) S' g A' n' c' xs safe' most := by
  have h1 := set_blk (i := 0) hb (.slice A' n' c')
  have h2 := set_blk (i := 1) h1 (.int .i64 safe')
  refine ⟨⟨blk_cell h1 (Ext.refl _) rfl, blk_cell h1 (Ext.refl _) rfl, blk_free h1 (Ext.refl _) 1⟩, h2, ?_, hS, hw, fun i hi => by simpa using hlt i hi, hs, hm⟩
  have ho1 := ho.keep (w' := w.setCell ⟨g, 0, none⟩ (.slice A' n' c')) fun i hi => Below.heap_setCell _ _ _ _ fun e => ho.ne hb (by decide) (by rw [hi, e])
  exact ho1.keep fun i hi => Below.heap_setCell _ _ _ _ fun e => ho1.ne h1 (by decide) (by rw [hi, e])

set_option maxRecDepth 100000 in
set_option maxHeartbeats 400000 in
theorem cut_calls (S : Nat → Prop) (g : Nat) (xs : List Int) (safe : Nat) (most : Int) (n : Nat) (w : World) (h : Tape w S g xs safe most) (hn : n ≤ xs.length) (hx : xs.length ≤ 1099511627776) :
    Calls Try.prog 100 #[.pointer (some ⟨g, 0, none⟩), .int .i64 n] w fun e w' => e = .returned (.int .i64 0) ∧ ∃ S', Tape w' S' g (xs.take n) n most ∧ Step S S' w w' := by
  obtain ⟨A, n', c, h⟩ := h
  obtain rfl := h.len
  have hcap := h.own.cap.1
  have hm0 := h.most.1
  have hm1 := h.most.2
  have c0 := h.cells.1 _ (Ext.refl w)
  go_enter Try.func100, Try.ntmps100
  go_wp2_with fail
  refine (clone8 A n c (xs.take n) _ (rd_take (h.own.rd h.wf) hn) (by omega)).mono ?_
  rintro e w1 ⟨he1, A1, c1, rfl, ho1⟩
  have h1 := h.ext he1
  have hc1 := h1.cells.1 _ (Ext.refl _)
  have hf1 := blk_free h1.at_ (Ext.refl _) 0
  have hlt1 := with_lt (S := S) ho1 h.lt he1.size
  have hgr1 := with_new (S := S) ho1
  have hp := TapeIs.put' h1.at_ (with_own ho1) (.inl h.foot) hlt1 (fun x hx => h.wf x (List.mem_of_mem_take hx)) n (Nat.le_refl _) ⟨by omega, hm1⟩
  have hput2 := hp.2
  have hc2 := hp.1.2.1
  have hf2 := hp.1.2.2
  clear hp
  go_wp2_with fail
  go_ret
  exact ⟨rfl, _, ⟨A1, n, c1, hput2⟩, Chg.setCell (Chg.setCell (Below.chg he1) (p := ⟨g, 0, none⟩) h.foot _) (p := ⟨g, 1, none⟩) h.foot _, hgr1⟩

set_option maxRecDepth 100000 in
set_option maxHeartbeats 400000 in
theorem crash_calls (S : Nat → Prop) (g : Nat) (xs : List Int) (safe : Nat) (most : Int) (keep bits : Int) (w : World) (ht : Tape w S g xs safe most) (hk : (Lit.int .i64 keep).wf = true) (hb : (Lit.int .u8 bits).wf = true) (hx : xs.length ≤ 1099511627776) :
    Calls Try.prog 25 #[.pointer (some ⟨g, 0, none⟩), .int .i64 keep, .int .u8 bits] w fun e w' => e = .returned (.int .i64 ((xs.length - safe : Nat) - kept keep (xs.length - safe))) ∧ ∃ S', Tape w' S' g (crash xs safe keep bits) (safe + kept keep (xs.length - safe)) most ∧ Step S S' w w' := by
  obtain ⟨A, n', c, ht⟩ := ht
  obtain rfl := ht.len
  have hs := ht.safe
  have hcap := ht.own.cap.1
  have hm0 := ht.most.1
  have hm1 := ht.most.2
  obtain ⟨hk0, hk1⟩ := wf_i64 hk
  obtain ⟨hb0, hb1⟩ := wf_u8 hb
  obtain ⟨d0, d1, _⟩ := ht.cells
  have w1 : IntKind.i64.wrap ((xs.length : Int) - safe) = xs.length - safe := IntWalk.i64_in _ (by omega)
  have hK : (if (xs.length : Int) - safe < if keep < 0 then 0 else keep then (xs.length : Int) - safe else if keep < 0 then 0 else keep) = ((kept keep (xs.length - safe) : Nat) : Int) := by
    unfold kept
    split <;> split at * <;> omega
  have hKl := TapeP.kept_le keep (xs.length - safe)
  have HC : Hid (crash xs safe keep bits = if 0 < kept keep (xs.length - safe) then turn (xs.take (safe + kept keep (xs.length - safe))) bits else xs.take (safe + kept keep (xs.length - safe))) := Lib.hid rfl
  have HK := Lib.hid hK
  clear hk hb hK
  generalize hN : kept keep (xs.length - safe) = N at *
  clear hN
  generalize hM : safe + N = M at *
  have hM1 : M ≤ safe + N := by omega
  have hM2 : safe + N ≤ M := by omega
  clear hM
  have w2 : IntKind.i64.wrap ((xs.length : Int) - safe - N) = xs.length - safe - N := IntWalk.i64_in _ (by omega)
  have w3 : IntKind.i64.wrap ((safe : Int) + N) = M := by rw [IntWalk.i64_in _ (by omega)]; omega
  go_enter Try.func25, Try.ntmps25
  go_wp2_with fail
  refine Lex.wp_region_ext [] (by kernel_rfl) (by kernel_rfl) (by repeat (first | exact Lex.st_nil | refine Lex.st_cons (by first | exact Lex.nums_st | exact Lex.const_st | exact Lex.such_st | exact Lex.row_st | exact Lex.rowE_st | exact Lex.litR_st | assumption) ?_)) ?_
  repeat (first | (refine Lex.lex_skip (by rfl) ?_; simp only [Act.put, List.setIfInBounds_toArray, List.set_cons_zero, List.set_cons_succ]) | (refine Lex.lex_still (by rfl) (by rfl) ?_; apply Exists.intro; refine ⟨fun W hW => ?_, ?_⟩; (have hE := hW.1; have hE2 := Base.Ext.trans (Base.Ext.drew (Base.Ext.refl _)) hW.1; clear hW; go_simp; try with_reducible rfl); simp only [Act.put, List.setIfInBounds_toArray, List.set_cons_zero, List.set_cons_succ]))
  rw [HK.out]
  generalize (if keep < 0 then (0 : Int) else keep) = q
  refine Lex.lex_nil (fun W hW => ?_)
  have hE := drew_ext hW.1
  replace ht := ht.ext hE
  obtain ⟨d0, d1, _⟩ := ht.cells
  clear hW
  go_wp2_with fail
  refine Lex.wp_region_ext [] (by kernel_rfl) (by kernel_rfl) (by repeat (first | exact Lex.st_nil | refine Lex.st_cons (by first | exact Lex.nums_st | exact Lex.const_st | exact Lex.such_st | exact Lex.row_st | exact Lex.rowE_st | exact Lex.litR_st | assumption) ?_)) ?_
  repeat (first | (refine Lex.lex_skip (by rfl) ?_; simp only [Act.put, List.setIfInBounds_toArray, List.set_cons_zero, List.set_cons_succ]) | (refine Lex.lex_still (by rfl) (by rfl) ?_; apply Exists.intro; refine ⟨fun W hW => ?_, ?_⟩; (have hE := hW.1; have hE2 := Base.Ext.trans (Base.Ext.drew (Base.Ext.refl _)) hW.1; clear hW; go_simp; try with_reducible rfl); simp only [Act.put, List.setIfInBounds_toArray, List.set_cons_zero, List.set_cons_succ]))
  refine Lex.lex_nil (fun W hW => ?_)
  have hE2 := hE.trans (drew_ext hW.1)
  replace ht := ht.ext (drew_ext hW.1)
  obtain ⟨d0, d1, _⟩ := ht.cells
  clear hW
  have i0 : (0 : Int) ≤ (M : Int) := by omega
  have i1 : (M : Int) ≤ xs.length := by omega
  have i2 : (M : Int) ≤ c := by omega
  have i3 : (xs.length : Int) ≤ c := by omega
  go_wp2_with fail
  refine Lex.wp_region_tail 15 [(12, .row w 5 .u8 M (xs.take M))] (by kernel_rfl) (by kernel_rfl) (by repeat (first | exact Lex.st_nil | refine Lex.st_cons (by first | exact Lex.nums_st | exact Lex.const_st | exact Lex.such_st | exact Lex.row_st | exact Lex.rowE_st | exact Lex.litR_st | assumption) ?_)) ?_; simp only [List.take_succ_cons, List.take_zero, List.drop_succ_cons, List.drop_zero]
  repeat (first | (refine Lex.lexT_skip (by rfl) ?_; simp only [Act.put, List.setIfInBounds_toArray, List.set_cons_zero, List.set_cons_succ]) | (refine Lex.lexT_still (by rfl) (by rfl) ?_; apply Exists.intro; refine ⟨fun W hW => ?_, ?_⟩; (have hE := hW.1; have hE2 := Base.Ext.trans (Base.Ext.drew (Base.Ext.refl _)) hW.1; clear hW; go_simp; try with_reducible rfl); simp only [Act.put, List.setIfInBounds_toArray, List.set_cons_zero, List.set_cons_succ]))
  refine Lex.lexT_loose (by rfl) (by rfl) (fun W hW => ?_) ?_
  · go_simp
    refine (clone8 A M c (xs.take M) _ (rd_take ((ht.ext (drew_ext hW.1)).own.rd ht.wf) (by omega)) (by omega)).mono ?_
    rintro e w5 ⟨he5, A5, c5, rfl, ho5⟩
    exact ⟨_, rfl, ⟨A5, c5, rfl, ho5.cap.1⟩, he5, Lex.row_mk (ho5.mono fun i _ hi => Nat.le_trans (hE2.trans (drew_ext hW.1)).size hi)⟩
  rintro v ⟨A5, c5, rfl, hcap5⟩
  simp only [Act.put, List.setIfInBounds_toArray, List.set_cons_zero, List.set_cons_succ]
  repeat (first | (refine Lex.lexT_skip (by rfl) ?_; simp only [Act.put, List.setIfInBounds_toArray, List.set_cons_zero, List.set_cons_succ]) | (refine Lex.lexT_still (by rfl) (by rfl) ?_; apply Exists.intro; refine ⟨fun W hW => ?_, ?_⟩; (have hE := hW.1; have hE2 := Base.Ext.trans (Base.Ext.drew (Base.Ext.refl _)) hW.1; clear hW; go_simp; try with_reducible rfl); simp only [Act.put, List.setIfInBounds_toArray, List.set_cons_zero, List.set_cons_succ]))
  refine Lex.lexT_nil (fun W hW => ?_)
  have ho5 := Lex.upd_here (hW.2 12) _ _ rfl
  have hE3 := hE2.trans (drew_ext hW.1)
  replace ht := ht.ext (drew_ext hW.1)
  have hlt5 := with_lt (S := S) ho5 ht.lt (Nat.le_refl _)
  have hgr5 := with_new (S := S) ho5
  have hq := ht.cells.1 _ (Ext.refl _)
  have hf := blk_free ht.at_ (Ext.refl _) 0
  have hlen5 : (xs.take M).length = M := by rw [List.length_take]; omega
  have hwf5 : ∀ x ∈ xs.take M, (Lit.int .u8 x).wf = true := fun x hx => ht.wf x (List.mem_of_mem_take hx)
  clear hW d0 d1 w1 w2 w3 hE hE2
  by_cases hN0 : 0 < N
  · rw [if_pos hN0] at HC
    have hp := TapeIs.put ht.at_ (with_own ho5) (.inl ht.foot) hlt5 hwf5 (show safe ≤ M by omega) ⟨by omega, hm1⟩
    have hr5 := hp.own.rd hwf5
    obtain ⟨ad, rfl, hcb⟩ := hr5.at_ (j := M - 1) (by omega)
    obtain ⟨hz0, hz1⟩ := wf_u8 (hr5.wfAt (j := M - 1) (by omega))
    have HG : Hid ((xs.take M).getD (M - 1) 0 = (xs.take M).getD ((xs.take M).length - 1) 0) := Lib.hid (by rw [hlen5])
    generalize (xs.take M).getD (M - 1) 0 = b at *
    obtain ⟨e0, e1, _⟩ := hp.cells
    have ecb : ∀ W', Ext (W.setCell ⟨g, 0, none⟩ (.slice (some ad) M c5)) W' → W'.cell? (ad.add (M - 1)) = some (.int .u8 b) := fun W' he => he.cell_ hcb
    have w4 : IntKind.i64.wrap ((M : Int) - 1) = M - 1 := IntWalk.i64_in _ (by omega)
    have j0 : (0 : Int) ≤ (M : Int) - 1 := by omega
    have j1 : (M : Int) - 1 < M := by omega
    have j2 : ((M : Int) - 1).toNat = M - 1 := by omega
    have j3 : (1 : Int) ≤ M := by omega
    clear hcb
    go_wp2_with fail
    refine Lex.wp_region_tail 15 [] (by kernel_rfl) (by kernel_rfl) (by repeat (first | exact Lex.st_nil | refine Lex.st_cons (by first | exact Lex.nums_st | exact Lex.const_st | exact Lex.such_st | exact Lex.row_st | exact Lex.rowE_st | exact Lex.litR_st | assumption) ?_)) ?_; simp only [List.take_succ_cons, List.take_zero, List.drop_succ_cons, List.drop_zero]
    repeat (first | (refine Lex.lexT_skip (by rfl) ?_; simp only [Act.put, List.setIfInBounds_toArray, List.set_cons_zero, List.set_cons_succ]) | (refine Lex.lexT_still (by rfl) (by rfl) ?_; apply Exists.intro; refine ⟨fun W hW => ?_, ?_⟩; (have hE := hW.1; have hE2 := Base.Ext.trans (Base.Ext.drew (Base.Ext.refl _)) hW.1; clear hW; go_simp; try with_reducible rfl); simp only [Act.put, List.setIfInBounds_toArray, List.set_cons_zero, List.set_cons_succ]))
    refine Lex.lexT_nil (fun W hW => ?_)
    have hE4 := drew_ext hW.1
    have hp1 := hp.ext hE4
    have hcb1 := ecb _ hE4
    have hfb1 := own_free hp1.own (M - 1)
    have hne : ad.block ≠ g := fun e => hp1.own.ne hp1.at_ (by decide) (by rw [← e]; rfl)
    have hts : (xs.take M).set (M - 1) (Go.bits .xor .u8 b bits) = turn (xs.take M) bits := by rw [turn, ← HG.out, hlen5]
    have ho6 := own_set hp1.own (j := M - 1) (by omega) (Go.bits .xor .u8 b bits)
    rw [hts] at ho6
    have hat6 : (W.setCell (ad.add (M - 1)) (.int .u8 (Go.bits .xor .u8 b bits))).heap[g]? = some (.cells #[.slice (some ad) M c5, .int .i64 safe, .int .i64 most] 180 (0, 0)) := by
      rw [Below.heap_setCell _ _ _ _ (by rw [block_add]; exact fun e => hne e.symm)]
      exact hp1.at_
    have hwf6 : ∀ x ∈ turn (xs.take M) bits, (Lit.int .u8 x).wf = true := fun x hx => by
      rcases List.mem_or_eq_of_mem_set hx with h1 | h1
      · exact hwf5 x h1
      · rw [h1]; have := TapeP.bits_u8 ((xs.take M).getD ((xs.take M).length - 1) 0) bits; exact u8_wf this.1 this.2
    have hp6 : TapeIs (W.setCell (ad.add (M - 1)) (.int .u8 (Go.bits .xor .u8 b bits))) (With S (.slice (some ad) M c5)) g (some ad) M c5 (turn (xs.take M) bits) safe most :=
      ⟨hat6, ho6, hp1.foot, hwf6, fun i hi => by simpa using hp1.lt i hi, hp1.safe, hp1.most⟩
    have hq6 := hp6.cells.1 _ (Ext.refl _)
    have hs6 := hp6.cells.2.1 _ (Ext.refl _)
    have hf6 := blk_free hp6.at_ (Ext.refl _) 1
    have hp7 := hp6.sync (safe' := M) (Nat.le_refl _)
    have hch : Chg (With S (.slice (some ad) M c5)) w W := (Chg.setCell (Below.chg hE3) (p := ⟨g, 0, none⟩) (.inl ht.foot) _).trans (Below.chg hE4)
    have hch7 := Chg.setCell (Chg.setCell hch (p := ad.add (M - 1)) (.inr (by rw [block_add]; rfl)) (.int .u8 (Go.bits .xor .u8 b bits))) (p := ⟨g, 1, none⟩) (.inl ht.foot) (.int .i64 M)
    clear hW ecb e0 e1 w4 j0 j1 j2 hts
    go_wp2_with fail
    go_ret
    rw [HC.out]
    exact ⟨ret_int (by omega), _, ⟨some ad, M, c5, hp7⟩, hch7.mono fun i hi h => (hgr5 i h).elim id fun h2 => by omega, hgr5⟩
  · rw [if_neg hN0] at HC
    obtain rfl : N = 0 := by omega
    have hp := TapeIs.put' ht.at_ (with_own ho5) (.inl ht.foot) hlt5 hwf5 M (Nat.le_refl _) ⟨by omega, hm1⟩
    have hput2 := hp.2
    have hc50 := hp.1.1
    have hc5 := hp.1.2.1
    have hf5 := hp.1.2.2
    clear hp
    go_wp2_with fail
    go_ret
    rw [HC.out]
    exact ⟨ret_int (by omega), _, ⟨A5, M, c5, hput2⟩, Chg.setCell (Chg.setCell (Below.chg hE3) (p := ⟨g, 0, none⟩) ht.foot _) (p := ⟨g, 1, none⟩) ht.foot _, hgr5⟩

set_option maxRecDepth 100000 in
set_option maxHeartbeats 400000 in
theorem cut_no (S : Nat → Prop) (g : Nat) (xs : List Int) (safe : Nat) (most : Int) (n : Int) (w : World) (h : Tape w S g xs safe most) (hn : n < 0 ∨ xs.length < n) :
    Calls Try.prog 100 #[.pointer (some ⟨g, 0, none⟩), .int .i64 n] w fun e w' => e = .returned (.int .i64 1) ∧ Ext w w' := by
  obtain ⟨A, n', c, h⟩ := h
  obtain rfl := h.len
  have c0 := h.cells.1 _ (Ext.refl w)
  rcases hn with hn | hn
  · go_enter Try.func100, Try.ntmps100
    go_wp2_with fail
    go_ret
    exact ⟨rfl, Ext.refl _⟩
  · have h0 : ¬ n < 0 := by omega
    go_enter Try.func100, Try.ntmps100
    go_wp2_with fail
    go_ret
    exact ⟨rfl, Ext.refl _⟩
set_option maxRecDepth 100000 in
theorem read_nil (w : World) : Calls Try.prog 42 #[.pointer none] w fun e w' => e = .returned (.slice none 0 0) ∧ w = w' := by
  go_enter Try.func42, Try.ntmps42
  go_wp2_with fail
  go_ret
  exact ⟨rfl, rfl⟩
set_option maxRecDepth 100000 in
theorem back_nil (w : World) : Calls Try.prog 104 #[.pointer none] w fun e w' => e = .returned (.int .i64 0) ∧ w = w' := by
  go_enter Try.func104, Try.ntmps104
  go_wp2_with fail
  go_ret
  exact ⟨rfl, rfl⟩
set_option maxRecDepth 100000 in
theorem crash_nil (w : World) : Calls Try.prog 25 #[.pointer none, .int .i64 1, .int .u8 1] w fun e w' => e = .returned (.int .i64 0) ∧ w = w' := by
  go_enter Try.func25, Try.ntmps25
  go_wp2_with fail
  go_ret
  exact ⟨rfl, rfl⟩
set_option maxRecDepth 100000 in
theorem append_nil (w : World) : Calls Try.prog 102 #[.pointer none, .slice none 0 0] w fun e w' => e = .returned (.int .i64 3) ∧ w = w' := by
  go_enter Try.func102, Try.ntmps102
  go_wp2_with fail
  go_ret
  exact ⟨rfl, rfl⟩
set_option maxRecDepth 100000 in
theorem sync_nil (w : World) : Calls Try.prog 101 #[.pointer none] w fun e w' => e = .returned (.int .i64 3) ∧ w = w' := by
  go_enter Try.func101, Try.ntmps101
  go_wp2_with fail
  go_ret
  exact ⟨rfl, rfl⟩
set_option maxRecDepth 100000 in
theorem cut_nil (w : World) : Calls Try.prog 100 #[.pointer none, .int .i64 0] w fun e w' => e = .returned (.int .i64 3) ∧ w = w' := by
  go_enter Try.func100, Try.ntmps100
  go_wp2_with fail
  go_ret
  exact ⟨rfl, rfl⟩
end Go.Proofs.Ytfhgjopoohfhjaa.Tape
