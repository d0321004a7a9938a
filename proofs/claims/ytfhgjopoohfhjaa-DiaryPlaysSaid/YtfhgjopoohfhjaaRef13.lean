import Derived.Test.YtfhgjopoohfhjaaTape
import Derived.Deep.RegionHeld3
import Derived.Deep.DeepCutAuto
namespace Go.Proofs.Ytfhgjopoohfhjaa.Ref13
open Go.RowKit Base Step
open TapeP (kept crash turn)

/-- The document's tape, a value: its safe bytes, its loose ones, and its room. -/
def val (A : Option Addr) (n c : Nat) (B : Option Addr) (m d : Nat) (most : Int) : Value := .agg #[.slice A n c, .slice B m d, .int .i64 most]

set_option maxRecDepth 100000 in
set_option maxHeartbeats 800000 in
theorem all_calls (A : Option Addr) (n c : Nat) (xs : List Int) (B : Option Addr) (m d : Nat) (ys : List Int) (most : Int) (w : World) (h1 : Rd w .u8 A n xs) (h2 : Rd w .u8 B m ys) (hn : n ≤ 1099511627776) (hm : m ≤ 1099511627776) :
    Calls Try.prog 38 #[.agg #[.slice A n c, .slice B m d, .int .i64 most]] w fun e w' => Ext w w' ∧ ∃ A' c', e = .returned (.slice A' (n + m) c') ∧ New w w' 5 1 A' (n + m) c' (nums .u8 (xs ++ ys)) := by
  have hb : (w.alloc (.cells #[.slice A n c, .slice B m d, .int .i64 most] 52)).heap[w.heap.size]? = some (.cells #[.slice A n c, .slice B m d, .int .i64 most] 52 (0, 0)) := at_new _ _
  have e0 := Ext.new w (.cells #[.slice A n c, .slice B m d, .int .i64 most] 52)
  have g1 := h1.ext e0
  have g2 := h2.ext e0
  go_enter Try.func38, Try.ntmps38
  go_wp2_with fail
  generalize hw0 : w.alloc (.cells #[.slice A n c, .slice B m d, .int .i64 most] 52) = w0 at *
  have hsz : w0.heap.size = w.heap.size + 1 := by rw [← hw0]; simp
  have HSZ := Lib.hid hsz
  clear hw0 hsz
  have d0 : ∀ W, Ext w0 W → W.cell? ⟨w.heap.size, 0, none⟩ = some (.slice A n c) := fun W h => blk_cell hb h rfl
  have d1 : ∀ W, Ext w0 W → W.cell? ⟨w.heap.size, 1, none⟩ = some (.slice B m d) := fun W h => blk_cell hb h rfl
  go_region_held3 (fun W => Ext w0 W) (first | exact (Ext.refl _).drew | exact (Ext.new _ _).drew | exact he2 | exact he1)
    (first | (refine step_more w0 _ (by rfl) _ _ _ (by rfl) 5 .u8 1 Try.underlying22 Pack.info_u8 (by decide) _ 0 [] (by rfl) (own_empty (at_new w0 _) (Nat.le_refl _)) (Ext.new w0 _).drew A n c xs (by rfl) (g1.ext (Ext.new w0 _).drew) (by omega) ?_; intro A1 c1 w1 ho1 he1) | (refine step_more w0 _ (by rfl) _ _ _ (by rfl) 5 .u8 1 Try.underlying22 Pack.info_u8 (by decide) _ _ xs (by rfl) ho1 he1 B m d ys (by rfl) (g2.ext he1) (by omega) ?_; intro A2 c2 w2 ho2 he2))
  clear d0 d1
  go_wp2_with fail
  go_ret
  rw [Nat.zero_add] at ho2
  exact ⟨e0.trans he2, A2, c2, rfl, ho2.mono fun i _ hi => by have := HSZ.out; omega⟩

set_option maxRecDepth 100000 in
set_option maxHeartbeats 800000 in
theorem append_full (A : Option Addr) (n c : Nat) (B : Option Addr) (m d : Nat) (most : Int) (D : Option Addr) (k f : Nat) (w : World) (hn : n ≤ 1099511627776) (hm : m ≤ 1099511627776) (hk : k ≤ 1099511627776) (hfit : most < (n : Int) + m + k) :
    Calls Try.prog 40 #[.agg #[.slice A n c, .slice B m d, .int .i64 most], .slice D k f] w fun e w' => e = .returned (.tuple #[.agg #[.slice A n c, .slice B m d, .int .i64 most], .int .i64 20]) ∧ Ext w w' := by
  go_enter Try.func40, Try.ntmps40
  go_wp2_with fail
  exact bodyPost_ret (v := .tuple #[.agg #[.slice A n c, .slice B m d, .int .i64 most], .int .i64 20]) (by simp [results, Try.results40, go_sem]) rfl ⟨rfl, (((Ext.new _ _).alloc _))⟩

set_option maxRecDepth 100000 in
set_option maxHeartbeats 800000 in
theorem append_calls (A : Option Addr) (n c : Nat) (B : Option Addr) (m d : Nat) (ys : List Int) (most : Int) (D : Option Addr) (k f : Nat) (zs : List Int) (w : World) (h2 : Rd w .u8 B m ys) (h3 : Rd w .u8 D k zs) (hn : n ≤ 1099511627776) (hm : m ≤ 1099511627776) (hk : k ≤ 1099511627776) (hfit : (n : Int) + m + k ≤ most) :
    Calls Try.prog 40 #[.agg #[.slice A n c, .slice B m d, .int .i64 most], .slice D k f] w fun e w' => Ext w w' ∧ ∃ B' d', e = .returned (.tuple #[.agg #[.slice A n c, .slice B' (m + k) d', .int .i64 most], .int .i64 0]) ∧ New w w' 5 1 B' (m + k) d' (nums .u8 (ys ++ zs)) := by
  have e0 : Ext w ((w.alloc (.cells #[.slice A n c, .slice B m d, .int .i64 most] 52)).alloc (.cells #[.slice none 0 0, .slice none 0 0, .int .i64 0] 52)) := (Ext.new w _).alloc _
  have hb0 : ((w.alloc (.cells #[.slice A n c, .slice B m d, .int .i64 most] 52)).alloc (.cells #[.slice none 0 0, .slice none 0 0, .int .i64 0] 52)).heap[w.heap.size]? = some (.cells #[.slice A n c, .slice B m d, .int .i64 most] 52 (0, 0)) := (Ext.new _ _).at_ (at_new _ _)
  have hr0 : ((w.alloc (.cells #[.slice A n c, .slice B m d, .int .i64 most] 52)).alloc (.cells #[.slice none 0 0, .slice none 0 0, .int .i64 0] 52)).heap[w.heap.size + 1]? = some (.cells #[.slice none 0 0, .slice none 0 0, .int .i64 0] 52 (0, 0)) := by
    have := at_new (w.alloc (.cells #[.slice A n c, .slice B m d, .int .i64 most] 52)) (.cells #[.slice none 0 0, .slice none 0 0, .int .i64 0] 52)
    simpa using this
  have hsz : w.heap.size ≤ ((w.alloc (.cells #[.slice A n c, .slice B m d, .int .i64 most] 52)).alloc (.cells #[.slice none 0 0, .slice none 0 0, .int .i64 0] 52)).heap.size := e0.size
  have HSZ := Lib.hid hsz
  clear hsz
  have hem : (((w.alloc (.cells #[.slice A n c, .slice B m d, .int .i64 most] 52)).alloc (.cells #[.slice none 0 0, .slice none 0 0, .int .i64 0] 52)).alloc (.cells #[] 5)).heap[w.heap.size + 1 + 1]? = some (.cells #[] 5 (0, 0)) := by
    have := at_new ((w.alloc (.cells #[.slice A n c, .slice B m d, .int .i64 most] 52)).alloc (.cells #[.slice none 0 0, .slice none 0 0, .int .i64 0] 52)) (.cells #[] 5)
    simpa using this
  have hom : Own (((w.alloc (.cells #[.slice A n c, .slice B m d, .int .i64 most] 52)).alloc (.cells #[.slice none 0 0, .slice none 0 0, .int .i64 0] 52)).alloc (.cells #[] 5)) (fun i => ((w.alloc (.cells #[.slice A n c, .slice B m d, .int .i64 most] 52)).alloc (.cells #[.slice none 0 0, .slice none 0 0, .int .i64 0] 52)).heap.size ≤ i) 5 1 (.slice (some ⟨w.heap.size + 1 + 1, 0, none⟩) 0 0) 0 (nums .u8 []) := own_empty hem (by simp)
  have HOM := Lib.hid hom
  clear hem hom
  go_enter Try.func40, Try.ntmps40
  go_wp2_with (at_builtin; refine wpList_more ((w.alloc (.cells #[.slice A n c, .slice B m d, .int .i64 most] 52)).alloc (.cells #[.slice none 0 0, .slice none 0 0, .int .i64 0] 52)) _ rfl _ _ _ rfl 5 .u8 1 Try.underlying22 Pack.info_u8 (by decide) _ 0 [] rfl HOM.out (Ext.new _ _) B m d ys rfl ((h2.ext e0).ext (Ext.new _ _)) ?c2 ?_)
  case c2 => omega
  intro A1 c1 w1 ho1 he1
  try simp only [Nat.zero_add, List.nil_append] at ho1
  go_wp2_with (at_builtin; refine wpList_more _ w1 rfl _ _ _ rfl 5 .u8 1 Try.underlying22 Pack.info_u8 (by decide) _ m ys rfl ho1 he1 D k f zs rfl ((h3.ext e0).ext he1) ?c2 ?_)
  case c2 => omega
  intro A2 c2 w2 ho2 he2
  have hb2 := he2.at_ hb0
  have hr2 := he2.at_ hr0
  have hc1 := blk_cell (i := 1) hb2 (Ext.refl _) rfl
  have hf1 := Pack.free_of hb2 1
  have hb3 := set_blk (i := 1) hb2 (.slice A2 (m + k) c2)
  have b0 := blk_cell (i := 0) hb3 (Ext.refl _) rfl
  have b1 := blk_cell (i := 1) hb3 (Ext.refl _) rfl
  have b2 := blk_cell (i := 2) hb3 (Ext.refl _) rfl
  have hr3 : (w2.setCell ⟨w.heap.size, 1, none⟩ (.slice A2 (m + k) c2)).heap[w.heap.size + 1]? = some (.cells #[.slice none 0 0, .slice none 0 0, .int .i64 0] 52 (0, 0)) := by
    rw [Below.heap_setCell _ _ _ _ (by simp)]
    exact hr2
  have r0 := blk_cell (i := 0) hr3 (Ext.refl _) rfl
  have r1 := blk_cell (i := 1) hr3 (Ext.refl _) rfl
  have r2 := blk_cell (i := 2) hr3 (Ext.refl _) rfl
  have rf := Pack.free_of hr3
  have rf0 := rf 0
  have rf1 := rf 1
  have rf2 := rf 2
  clear rf
  have hr4 := set_blk (i := 0) hr3 (.slice A n c)
  have hr5 := set_blk (i := 1) hr4 (.slice A2 (m + k) c2)
  have hr6 := set_blk (i := 2) hr5 (.int .i64 most)
  have q0 := blk_cell (i := 0) hr6 (Ext.refl _) rfl
  have q1 := blk_cell (i := 1) hr6 (Ext.refl _) rfl
  have q2 := blk_cell (i := 2) hr6 (Ext.refl _) rfl
  have ho6 := own_put (i := 2) (u := .int .i64 most) (own_put (i := 1) (u := .slice A2 (m + k) c2) (own_put (i := 0) (u := .slice A n c) (own_put (i := 1) (u := .slice A2 (m + k) c2) ho2 hb2 (by decide)) hr3 (by decide)) hr4 (by decide)) hr5 (by decide)
  have hn6 := ho6.mono (S' := fun i => w.heap.size ≤ i) fun i _ hi => Nat.le_trans HSZ.out hi
  have he6 := (((((e0.trans he2).setCell (p := ⟨w.heap.size, 1, none⟩) (Nat.le_refl _) (.slice A2 (m + k) c2)).setCell (p := ⟨w.heap.size + 1, 0, none⟩) (Nat.le_succ _) (.slice A n c)).setCell (p := ⟨w.heap.size + 1, 1, none⟩) (Nat.le_succ _) (.slice A2 (m + k) c2)).setCell (p := ⟨w.heap.size + 1, 2, none⟩) (Nat.le_succ _) (.int .i64 most))
  clear hr4 hr5 hr6 ho6 hb3 hr3 hb2 hr2
  go_wp2_with fail
  exact bodyPost_ret (v := .tuple #[.agg #[.slice A n c, .slice A2 (m + k) c2, .int .i64 most], .int .i64 0]) (by simp [results, Try.results40, go_sem, q0, q1, q2]) rfl ⟨he6, A2, c2, rfl, hn6⟩

set_option maxRecDepth 100000 in
set_option maxHeartbeats 800000 in
theorem sync_calls (A : Option Addr) (n c : Nat) (xs : List Int) (B : Option Addr) (m d : Nat) (ys : List Int) (most : Int) (w : World) (h1 : Rd w .u8 A n xs) (h2 : Rd w .u8 B m ys) (hn : n ≤ 1099511627776) (hm : m ≤ 1099511627776) :
    Calls Try.prog 35 #[.agg #[.slice A n c, .slice B m d, .int .i64 most]] w fun e w' => Ext w w' ∧ ∃ A' c', e = .returned (.agg #[.slice A' (n + m) c', .slice none 0 0, .int .i64 most]) ∧ New w w' 5 1 A' (n + m) c' (nums .u8 (xs ++ ys)) := by
  have e0 : Ext w ((w.alloc (.cells #[.slice A n c, .slice B m d, .int .i64 most] 52)).alloc (.cells #[.slice none 0 0, .slice none 0 0, .int .i64 0] 52)) := (Ext.new w _).alloc _
  have hb0 : ((w.alloc (.cells #[.slice A n c, .slice B m d, .int .i64 most] 52)).alloc (.cells #[.slice none 0 0, .slice none 0 0, .int .i64 0] 52)).heap[w.heap.size]? = some (.cells #[.slice A n c, .slice B m d, .int .i64 most] 52 (0, 0)) := (Ext.new _ _).at_ (at_new _ _)
  have hr0 : ((w.alloc (.cells #[.slice A n c, .slice B m d, .int .i64 most] 52)).alloc (.cells #[.slice none 0 0, .slice none 0 0, .int .i64 0] 52)).heap[w.heap.size + 1]? = some (.cells #[.slice none 0 0, .slice none 0 0, .int .i64 0] 52 (0, 0)) := by
    have := at_new (w.alloc (.cells #[.slice A n c, .slice B m d, .int .i64 most] 52)) (.cells #[.slice none 0 0, .slice none 0 0, .int .i64 0] 52)
    simpa using this
  go_enter Try.func35, Try.ntmps35
  go_wp2_with fail
  generalize hw0 : (w.alloc (.cells #[.slice A n c, .slice B m d, .int .i64 most] 52)).alloc (.cells #[.slice none 0 0, .slice none 0 0, .int .i64 0] 52) = w0 at *
  clear hw0
  have d0 : ∀ W, Ext w0 W → W.cell? ⟨w.heap.size, 0, none⟩ = some (.slice A n c) := fun W h => blk_cell hb0 h rfl
  have d1 : ∀ W, Ext w0 W → W.cell? ⟨w.heap.size, 1, none⟩ = some (.slice B m d) := fun W h => blk_cell hb0 h rfl
  have d2 : ∀ W, Ext w0 W → W.cell? ⟨w.heap.size, 2, none⟩ = some (.int .i64 most) := fun W h => blk_cell hb0 h rfl
  refine Lex.wp_region_tail 5 [(1, .row w 5 .u8 (n + m) (xs ++ ys))] (by kernel_rfl) (by kernel_rfl) (by repeat (first | exact Lex.st_nil | refine Lex.st_cons (by first | exact Lex.nums_st | exact Lex.const_st | exact Lex.such_st | exact Lex.row_st | exact Lex.rowE_st | exact Lex.litR_st | assumption) ?_)) ?_; simp only [List.take_succ_cons, List.take_zero, List.drop_succ_cons, List.drop_zero]
  repeat (first | (refine Lex.lexT_skip (by rfl) ?_; simp only [Act.put, List.setIfInBounds_toArray, List.set_cons_zero, List.set_cons_succ]) | (refine Lex.lexT_still (by rfl) (by rfl) ?_; apply Exists.intro; refine ⟨fun W hW => ?_, ?_⟩; (have hE := hW.1; have hE2 := Base.Ext.trans (Base.Ext.drew (Base.Ext.refl _)) hW.1; clear hW; go_simp; try with_reducible rfl); simp only [Act.put, List.setIfInBounds_toArray, List.set_cons_zero, List.set_cons_succ]))
  refine Lex.lexT_loose (by rfl) (by rfl) (fun W hW => ?_) ?_
  · have hE := drew_ext hW.1
    go_simp
    refine (all_calls A n c xs B m d ys most _ (h1.ext (e0.trans hE)) (h2.ext (e0.trans hE)) hn hm).mono ?_
    rintro e w5 ⟨he5, A5, c5, rfl, ho5⟩
    exact ⟨_, rfl, ⟨A5, c5, rfl, ho5.cap.1⟩, he5, Lex.row_mk (ho5.mono fun i _ hi => Nat.le_trans (e0.trans hE).size hi)⟩
  rintro v ⟨A5, c5, rfl, hcap5⟩
  simp only [Act.put, List.setIfInBounds_toArray, List.set_cons_zero, List.set_cons_succ]
  repeat (first | (refine Lex.lexT_skip (by rfl) ?_; simp only [Act.put, List.setIfInBounds_toArray, List.set_cons_zero, List.set_cons_succ]) | (refine Lex.lexT_still (by rfl) (by rfl) ?_; apply Exists.intro; refine ⟨fun W hW => ?_, ?_⟩; (have hE := hW.1; have hE2 := Base.Ext.trans (Base.Ext.drew (Base.Ext.refl _)) hW.1; clear hW; go_simp; try with_reducible rfl); simp only [Act.put, List.setIfInBounds_toArray, List.set_cons_zero, List.set_cons_succ]))
  refine Lex.lexT_nil (fun W hW => ?_)
  have ho5 := Lex.upd_here (hW.2 1) _ _ rfl
  have hE := drew_ext hW.1
  have hr3 := hE.at_ hr0
  have r0 := blk_cell (i := 0) hr3 (Ext.refl _) rfl
  have r1 := blk_cell (i := 1) hr3 (Ext.refl _) rfl
  have r2 := blk_cell (i := 2) hr3 (Ext.refl _) rfl
  have rf0 := Pack.free_of hr3 0
  have rf1 := Pack.free_of hr3 1
  have rf2 := Pack.free_of hr3 2
  have hr4 := set_blk (i := 0) hr3 (.slice A5 (n + m) c5)
  have hr5 := set_blk (i := 1) hr4 (.slice none 0 0)
  have hr6 := set_blk (i := 2) hr5 (.int .i64 most)
  have q0 := blk_cell (i := 0) hr6 (Ext.refl _) rfl
  have q1 := blk_cell (i := 1) hr6 (Ext.refl _) rfl
  have q2 := blk_cell (i := 2) hr6 (Ext.refl _) rfl
  have ho6 := own_put (i := 2) (u := .int .i64 most) (own_put (i := 1) (u := .slice none 0 0) (own_put (i := 0) (u := .slice A5 (n + m) c5) ho5 hr3 (by decide)) hr4 (by decide)) hr5 (by decide)
  have he6 := ((((e0.trans hE)).setCell (p := ⟨w.heap.size + 1, 0, none⟩) (Nat.le_succ _) (.slice A5 (n + m) c5)).setCell (p := ⟨w.heap.size + 1, 1, none⟩) (Nat.le_succ _) (.slice none 0 0)).setCell (p := ⟨w.heap.size + 1, 2, none⟩) (Nat.le_succ _) (.int .i64 most)
  clear hW hr4 hr5 hr6 hr3 d0 d1 d2
  go_wp2_with fail
  exact bodyPost_ret (v := .agg #[.slice A5 (n + m) c5, .slice none 0 0, .int .i64 most]) (by simp [results, Try.results35, go_sem, q0, q1, q2]) rfl ⟨he6, A5, c5, rfl, ho6⟩
set_option maxRecDepth 100000 in
set_option maxHeartbeats 800000 in
theorem cut_no (A : Option Addr) (n c : Nat) (B : Option Addr) (m d : Nat) (most : Int) (k : Int) (w : World) (hn : n ≤ 1099511627776) (hm : m ≤ 1099511627776) (hk : k < 0 ∨ (n : Int) + m < k) :
    Calls Try.prog 39 #[.agg #[.slice A n c, .slice B m d, .int .i64 most], .int .i64 k] w fun e w' => e = .returned (.tuple #[.agg #[.slice A n c, .slice B m d, .int .i64 most], .int .i64 1]) ∧ Ext w w' := by
  rcases hk with hk | hk
  · go_enter Try.func39, Try.ntmps39
    go_wp2_with fail
    exact bodyPost_ret (v := .tuple #[.agg #[.slice A n c, .slice B m d, .int .i64 most], .int .i64 1]) (by simp [results, Try.results39, go_sem]) rfl ⟨rfl, (((Ext.new _ _).alloc _))⟩
  · have h0 : ¬ k < 0 := by omega
    go_enter Try.func39, Try.ntmps39
    go_wp2_with fail
    exact bodyPost_ret (v := .tuple #[.agg #[.slice A n c, .slice B m d, .int .i64 most], .int .i64 1]) (by simp [results, Try.results39, go_sem]) rfl ⟨rfl, (((Ext.new _ _).alloc _))⟩

set_option maxRecDepth 100000 in
set_option maxHeartbeats 800000 in
theorem cut_calls (A : Option Addr) (n c : Nat) (xs : List Int) (B : Option Addr) (m d : Nat) (ys : List Int) (most : Int) (w : World) (h1 : Rd w .u8 A n xs) (h2 : Rd w .u8 B m ys) (hn : n ≤ 1099511627776) (hm : m ≤ 1099511627776) (k : Nat) (hk : k ≤ n + m) :
    Calls Try.prog 39 #[.agg #[.slice A n c, .slice B m d, .int .i64 most], .int .i64 k] w fun e w' => Ext w w' ∧ ∃ A' c', e = .returned (.tuple #[.agg #[.slice A' k c', .slice none 0 0, .int .i64 most], .int .i64 0]) ∧ New w w' 5 1 A' k c' (nums .u8 ((xs ++ ys).take k)) := by
  have e0 : Ext w ((w.alloc (.cells #[.slice A n c, .slice B m d, .int .i64 most] 52)).alloc (.cells #[.slice none 0 0, .slice none 0 0, .int .i64 0] 52)) := (Ext.new w _).alloc _
  have hb0 : ((w.alloc (.cells #[.slice A n c, .slice B m d, .int .i64 most] 52)).alloc (.cells #[.slice none 0 0, .slice none 0 0, .int .i64 0] 52)).heap[w.heap.size]? = some (.cells #[.slice A n c, .slice B m d, .int .i64 most] 52 (0, 0)) := (Ext.new _ _).at_ (at_new _ _)
  have hr0 : ((w.alloc (.cells #[.slice A n c, .slice B m d, .int .i64 most] 52)).alloc (.cells #[.slice none 0 0, .slice none 0 0, .int .i64 0] 52)).heap[w.heap.size + 1]? = some (.cells #[.slice none 0 0, .slice none 0 0, .int .i64 0] 52 (0, 0)) := by
    have := at_new (w.alloc (.cells #[.slice A n c, .slice B m d, .int .i64 most] 52)) (.cells #[.slice none 0 0, .slice none 0 0, .int .i64 0] 52)
    simpa using this
  go_enter Try.func39, Try.ntmps39
  go_wp2_with fail
  generalize hw0 : (w.alloc (.cells #[.slice A n c, .slice B m d, .int .i64 most] 52)).alloc (.cells #[.slice none 0 0, .slice none 0 0, .int .i64 0] 52) = w0 at *
  clear hw0
  have d0 : ∀ W, Ext w0 W → W.cell? ⟨w.heap.size, 0, none⟩ = some (.slice A n c) := fun W h => blk_cell hb0 h rfl
  have d1 : ∀ W, Ext w0 W → W.cell? ⟨w.heap.size, 1, none⟩ = some (.slice B m d) := fun W h => blk_cell hb0 h rfl
  have d2 : ∀ W, Ext w0 W → W.cell? ⟨w.heap.size, 2, none⟩ = some (.int .i64 most) := fun W h => blk_cell hb0 h rfl
  refine Lex.wp_region_tail 7 [(1, .row w 5 .u8 (n + m) (xs ++ ys))] (by kernel_rfl) (by kernel_rfl) (by repeat (first | exact Lex.st_nil | refine Lex.st_cons (by first | exact Lex.nums_st | exact Lex.const_st | exact Lex.such_st | exact Lex.row_st | exact Lex.rowE_st | exact Lex.litR_st | assumption) ?_)) ?_; simp only [List.take_succ_cons, List.take_zero, List.drop_succ_cons, List.drop_zero]
  repeat (first | (refine Lex.lexT_skip (by rfl) ?_; simp only [Act.put, List.setIfInBounds_toArray, List.set_cons_zero, List.set_cons_succ]) | (refine Lex.lexT_still (by rfl) (by rfl) ?_; apply Exists.intro; refine ⟨fun W hW => ?_, ?_⟩; (have hE := hW.1; have hE2 := Base.Ext.trans (Base.Ext.drew (Base.Ext.refl _)) hW.1; clear hW; go_simp; try with_reducible rfl); simp only [Act.put, List.setIfInBounds_toArray, List.set_cons_zero, List.set_cons_succ]))
  refine Lex.lexT_loose (by rfl) (by rfl) (fun W hW => ?_) ?_
  · have hE := drew_ext hW.1
    go_simp
    refine (all_calls A n c xs B m d ys most _ (h1.ext (e0.trans hE)) (h2.ext (e0.trans hE)) hn hm).mono ?_
    rintro e w5 ⟨he5, A5, c5, rfl, ho5⟩
    exact ⟨_, rfl, ⟨A5, c5, rfl, ho5.cap.1⟩, he5, Lex.row_mk (ho5.mono fun i _ hi => Nat.le_trans (e0.trans hE).size hi)⟩
  rintro v ⟨A5, c5, rfl, hcap5⟩
  have i0 : (0 : Int) ≤ (k : Int) := by omega
  have i1 : (k : Int) ≤ ((n + m : Nat) : Int) := by omega
  have i2 : (k : Int) ≤ (c5 : Int) := by omega
  simp only [Act.put, List.setIfInBounds_toArray, List.set_cons_zero, List.set_cons_succ]
  repeat (first | (refine Lex.lexT_skip (by rfl) ?_; simp only [Act.put, List.setIfInBounds_toArray, List.set_cons_zero, List.set_cons_succ]) | (refine Lex.lexT_still (by rfl) (by rfl) ?_; apply Exists.intro; refine ⟨fun W hW => ?_, ?_⟩; (have hE := hW.1; have hE2 := Base.Ext.trans (Base.Ext.drew (Base.Ext.refl _)) hW.1; clear hW; go_simp; try with_reducible rfl); simp only [Act.put, List.setIfInBounds_toArray, List.set_cons_zero, List.set_cons_succ]))
  refine Lex.lexT_nil (fun W hW => ?_)
  have ho5 := own_take (Lex.upd_here (hW.2 1) _ _ rfl) hk
  have hE := drew_ext hW.1
  have hr3 := hE.at_ hr0
  have r0 := blk_cell (i := 0) hr3 (Ext.refl _) rfl
  have r1 := blk_cell (i := 1) hr3 (Ext.refl _) rfl
  have r2 := blk_cell (i := 2) hr3 (Ext.refl _) rfl
  have rf0 := Pack.free_of hr3 0
  have rf1 := Pack.free_of hr3 1
  have rf2 := Pack.free_of hr3 2
  have hr4 := set_blk (i := 0) hr3 (.slice A5 k c5)
  have hr5 := set_blk (i := 1) hr4 (.slice none 0 0)
  have hr6 := set_blk (i := 2) hr5 (.int .i64 most)
  have q0 := blk_cell (i := 0) hr6 (Ext.refl _) rfl
  have q1 := blk_cell (i := 1) hr6 (Ext.refl _) rfl
  have q2 := blk_cell (i := 2) hr6 (Ext.refl _) rfl
  have ho6 := own_put (i := 2) (u := .int .i64 most) (own_put (i := 1) (u := .slice none 0 0) (own_put (i := 0) (u := .slice A5 k c5) ho5 hr3 (by decide)) hr4 (by decide)) hr5 (by decide)
  have he6 := ((((e0.trans hE)).setCell (p := ⟨w.heap.size + 1, 0, none⟩) (Nat.le_succ _) (.slice A5 k c5)).setCell (p := ⟨w.heap.size + 1, 1, none⟩) (Nat.le_succ _) (.slice none 0 0)).setCell (p := ⟨w.heap.size + 1, 2, none⟩) (Nat.le_succ _) (.int .i64 most)
  clear hW hr4 hr5 hr6 hr3 d0 d1 d2
  go_wp2_with fail
  exact bodyPost_ret (v := .tuple #[.agg #[.slice A5 k c5, .slice none 0 0, .int .i64 most], .int .i64 0]) (by simp [results, Try.results39, go_sem, q0, q1, q2]) rfl ⟨he6, A5, c5, rfl, ho6⟩

set_option maxRecDepth 100000 in
set_option maxHeartbeats 1600000 in
theorem crash_calls (A : Option Addr) (n c : Nat) (xs : List Int) (B : Option Addr) (m d : Nat) (ys : List Int) (most keep bits : Int) (w : World) (h1 : Rd w .u8 A n xs) (h2 : Rd w .u8 B m ys) (hn : n ≤ 1099511627776) (hm : m ≤ 1099511627776) (hmd : m ≤ d) (hk : (Lit.int .i64 keep).wf = true) (hb : (Lit.int .u8 bits).wf = true) :
    Calls Try.prog 37 #[.agg #[.slice A n c, .slice B m d, .int .i64 most], .int .i64 keep, .int .u8 bits] w fun e w' => Ext w w' ∧ ∃ A' c', e = .returned (.tuple #[.agg #[.slice A' (n + kept keep m) c', .slice none 0 0, .int .i64 most], .int .i64 ((m : Int) - (kept keep m : Nat))]) ∧ New w w' 5 1 A' (n + kept keep m) c' (nums .u8 (crash (xs ++ ys) n keep bits)) := by
  have e0 : Ext w ((w.alloc (.cells #[.slice A n c, .slice B m d, .int .i64 most] 52)).alloc (.cells #[.slice none 0 0, .slice none 0 0, .int .i64 0] 52)) := (Ext.new w _).alloc _
  have hb0 : ((w.alloc (.cells #[.slice A n c, .slice B m d, .int .i64 most] 52)).alloc (.cells #[.slice none 0 0, .slice none 0 0, .int .i64 0] 52)).heap[w.heap.size]? = some (.cells #[.slice A n c, .slice B m d, .int .i64 most] 52 (0, 0)) := (Ext.new _ _).at_ (at_new _ _)
  have hr0 : ((w.alloc (.cells #[.slice A n c, .slice B m d, .int .i64 most] 52)).alloc (.cells #[.slice none 0 0, .slice none 0 0, .int .i64 0] 52)).heap[w.heap.size + 1]? = some (.cells #[.slice none 0 0, .slice none 0 0, .int .i64 0] 52 (0, 0)) := by
    have := at_new (w.alloc (.cells #[.slice A n c, .slice B m d, .int .i64 most] 52)) (.cells #[.slice none 0 0, .slice none 0 0, .int .i64 0] 52)
    simpa using this
  obtain ⟨hk0, hk1⟩ := wf_i64 hk
  obtain ⟨hb0', hb1'⟩ := wf_u8 hb
  have hl1 := h1.len
  have hl2 := h2.len
  have hd : (xs ++ ys).length - n = m := by simp [hl1, hl2]
  have HC : Hid (crash (xs ++ ys) n keep bits = if 0 < kept keep m then turn ((xs ++ ys).take (n + kept keep m)) bits else (xs ++ ys).take (n + kept keep m)) := Lib.hid (by unfold crash; rw [hd])
  have HT : Hid ((xs ++ ys).take (n + kept keep m) = xs ++ ys.take (kept keep m)) := Lib.hid (by rw [← hl1, List.take_length_add_append])
  have hKl := TapeP.kept_le keep m
  have HKV : Hid (kept keep m = (min (max keep 0) (m : Int)).toNat) := Lib.hid rfl
  clear hl1 hl2 hd hk hb
  generalize kept keep m = N at *
  go_enter Try.func37, Try.ntmps37
  go_upto_region 1 with fail
  go_cut [8] (fun s wx => s = .int .i64 (N : Int) ∧ wx = ((w.alloc (.cells #[.slice A n c, .slice B m d, .int .i64 most] 52)).alloc (.cells #[.slice none 0 0, .slice none 0 0, .int .i64 0] 52)))
  case first =>
    have hkv := HKV.out
    go_wp2_with fail
    all_goals
      go_meet
      refine ⟨?_, rfl⟩
      simp only [Value.int.injEq, true_and]
      omega
  case rest =>
    obtain ⟨rfl, rfl⟩ := hcut
    generalize hw0 : ((w.alloc (.cells #[.slice A n c, .slice B m d, .int .i64 most] 52)).alloc (.cells #[.slice none 0 0, .slice none 0 0, .int .i64 0] 52)) = w0 at *
    clear hw0
    have d0 : ∀ W, Ext w0 W → W.cell? ⟨w.heap.size, 0, none⟩ = some (.slice A n c) := fun W h => blk_cell hb0 h rfl
    have d1 : ∀ W, Ext w0 W → W.cell? ⟨w.heap.size, 1, none⟩ = some (.slice B m d) := fun W h => blk_cell hb0 h rfl
    have g1 := h1.ext e0
    have g2 := rd_take (h2.ext e0) hKl
    have i0 : (0 : Int) ≤ (N : Int) := by omega
    have i1 : (N : Int) ≤ (m : Int) := by omega
    have i2 : (N : Int) ≤ (d : Int) := by omega
    go_wp2_with fail
    go_region_held3 (fun W => Ext w0 W) (first | exact (Ext.refl _).drew | exact (Ext.new _ _).drew | exact he2 | exact he1)
      (first | (refine step_more w0 _ (by rfl) _ _ _ (by rfl) 5 .u8 1 Try.underlying22 Pack.info_u8 (by decide) _ 0 [] (by rfl) (own_empty (at_new w0 _) (Nat.le_refl _)) (Ext.new w0 _).drew A n c xs (by rfl) (g1.ext (Ext.new w0 _).drew) (by omega) ?_; intro A1 c1 w1 ho1 he1) | (refine step_more w0 _ (by rfl) _ _ _ (by rfl) 5 .u8 1 Try.underlying22 Pack.info_u8 (by decide) _ _ xs (by rfl) ho1 he1 B N d (ys.take N) (by rfl) (g2.ext he1) (by omega) ?_; intro A2 c2 w2 ho2 he2))
    rw [Nat.zero_add, ← HT.out] at ho2
    have hwf : ∀ x ∈ (xs ++ ys).take (n + N), (Lit.int .u8 x).wf = true := fun x hx => wf_append h1.wf h2.wf x (List.mem_of_mem_take hx)
    have hlen : ((xs ++ ys).take (n + N)).length = n + N := (ho2.rd hwf).len
    have HLEN := Lib.hid hlen
    have HWF := Lib.hid hwf
    clear hlen hwf d0 d1 g1 g2 ho1 he1
    have key : ∃ zs, Hid (crash (xs ++ ys) n keep bits = zs) := ⟨_, Lib.hid rfl⟩
    obtain ⟨zs, HZ⟩ := key
    rw [HZ.out] at HC
    by_cases hN0 : 0 < N
    case' pos =>
      rw [if_pos hN0] at HC
      have hr2 := ho2.rd HWF.out
      obtain ⟨ad, rfl, hcb⟩ := hr2.at_ (j := n + N - 1) (by omega)
      obtain ⟨hz0, hz1⟩ := wf_u8 (hr2.wfAt (j := n + N - 1) (by omega))
      have HG : Hid (((xs ++ ys).take (n + N)).getD (n + N - 1) 0 = ((xs ++ ys).take (n + N)).getD (((xs ++ ys).take (n + N)).length - 1) 0) := Lib.hid (by rw [HLEN.out])
      generalize ((xs ++ ys).take (n + N)).getD (n + N - 1) 0 = b at *
      have hfb := own_free ho2 (n + N - 1)
      have hts : ((xs ++ ys).take (n + N)).set (n + N - 1) (Go.bits .xor .u8 b bits) = zs := by rw [HC.out, turn, ← HG.out, HLEN.out]
      have hoF := own_set ho2 (j := n + N - 1) (by omega) (Go.bits .xor .u8 b bits)
      rw [hts] at hoF
      have heF : Ext w0 (w2.setCell (ad.add (n + N - 1)) (.int .u8 (Go.bits .xor .u8 b bits))) := he2.setCell (by rw [block_add]; exact ho2.foot _ rfl) _
      clear hts hr2 ho2 he2
      go_wp2_with fail
      generalize w2.setCell (ad.add (n + N - 1)) (.int .u8 (Go.bits .xor .u8 b bits)) = wF at *
      generalize some ad = AF at *
    case' neg =>
      rw [if_neg hN0] at HC
      have hoF := ho2
      rw [← HC.out] at hoF
      have heF := he2
      clear ho2 he2
      go_wp2_with fail
      generalize w2 = wF at *
      generalize A2 = AF at *
    all_goals
      have hbF := heF.at_ hb0
      have hrF := heF.at_ hr0
      have w1' : IntKind.i64.wrap ((m : Int) - N) = m - N := IntWalk.i64_in _ (by omega)
      have d1 : ∀ W, Lex.St (w.heap.size + 1) (some (.cells #[.slice none 0 0, .slice none 0 0, .int .i64 0] 52 (0, 0))) (some (.cells #[.slice AF (n + N) c2, .slice none 0 0, .int .i64 most] 52 (0, 0))) wF.drew W → W.cell? ⟨w.heap.size, 1, none⟩ = some (.slice B m d) := fun W h => blk_cell (h.at_ (a := wF.drew) (i := w.heap.size) hbF (by omega)) (Ext.refl W) rfl
      have d2 : ∀ W, Lex.St (w.heap.size + 1) (some (.cells #[.slice none 0 0, .slice none 0 0, .int .i64 0] 52 (0, 0))) (some (.cells #[.slice AF (n + N) c2, .slice none 0 0, .int .i64 most] 52 (0, 0))) wF.drew W → W.cell? ⟨w.heap.size, 2, none⟩ = some (.int .i64 most) := fun W h => blk_cell (h.at_ (a := wF.drew) (i := w.heap.size) hbF (by omega)) (Ext.refl W) rfl
      refine Lex.wp_region_st (w.heap.size + 1) (some (.cells #[.slice none 0 0, .slice none 0 0, .int .i64 0] 52 (0, 0))) (some (.cells #[.slice AF (n + N) c2, .slice none 0 0, .int .i64 most] 52 (0, 0))) [(9, .stored (w.heap.size + 1) (some (.cells #[.slice AF (n + N) c2, .slice none 0 0, .int .i64 most] 52 (0, 0))))] (by kernel_rfl) (by kernel_rfl) (by repeat (first | exact Lex.st_nil | refine Lex.st_cons (by first | exact Lex.stored_st | exact Lex.const_stS | exact Lex.such_st) ?_)) ?_
      repeat (first | (refine Lex.lex_skip (by rfl) ?_; simp only [Act.put, List.setIfInBounds_toArray, List.set_cons_zero, List.set_cons_succ]) | (refine Lex.lex_still (by rfl) (by rfl) ?_; apply Exists.intro; refine ⟨fun W hW => ?_, ?_⟩; (have hE := hW.1; clear hW; go_simp; try with_reducible rfl); simp only [Act.put, List.setIfInBounds_toArray, List.set_cons_zero, List.set_cons_succ]))
      refine Lex.lex_loose (by rfl) (by rfl) (fun W hW => ?_) ?_
      · have hor := hW.1.or_ (a := wF.drew) hrF
        obtain ⟨c0, c1, c2', hblk⟩ : ∃ c0 c1 c2', W.heap[w.heap.size + 1]? = some (.cells #[c0, c1, c2'] 52 (0, 0)) := by
          rcases hor with h | h
          · exact ⟨_, _, _, h⟩
          · exact ⟨_, _, _, h⟩
        have r0 := blk_cell (i := 0) hblk (Ext.refl _) rfl
        have r1 := blk_cell (i := 1) hblk (Ext.refl _) rfl
        have r2 := blk_cell (i := 2) hblk (Ext.refl _) rfl
        have rf0 := Pack.free_of hblk 0
        have rf1 := Pack.free_of hblk 1
        have rf2 := Pack.free_of hblk 2
        have hY := set_blk (i := 2) (set_blk (i := 1) (set_blk (i := 0) hblk (.slice AF (n + N) c2)) (.slice none 0 0)) (.int .i64 most)
        have hc := Chg.setCell (S := fun i => i = w.heap.size + 1) (Chg.setCell (S := fun i => i = w.heap.size + 1) (Chg.setCell (S := fun i => i = w.heap.size + 1) (Chg.refl _ W) (p := ⟨w.heap.size + 1, 0, none⟩) rfl (.slice AF (n + N) c2)) (p := ⟨w.heap.size + 1, 1, none⟩) rfl (.slice none 0 0)) (p := ⟨w.heap.size + 1, 2, none⟩) rfl (.int .i64 most)
        have HOR := Lib.hid (Lex.St.mk_ hc hor hY)
        have HY := Lib.hid hY
        clear hor hc hY d1 d2
        go_simp
        exact ⟨rfl, HOR.out, HY.out⟩
      rintro v rfl
      simp only [Act.put, List.setIfInBounds_toArray, List.set_cons_zero, List.set_cons_succ]
      repeat (first | (refine Lex.lex_skip (by rfl) ?_; simp only [Act.put, List.setIfInBounds_toArray, List.set_cons_zero, List.set_cons_succ]) | (refine Lex.lex_still (by rfl) (by rfl) ?_; apply Exists.intro; refine ⟨fun W hW => ?_, ?_⟩; (have hE := hW.1; clear hW; go_simp; try with_reducible rfl); simp only [Act.put, List.setIfInBounds_toArray, List.set_cons_zero, List.set_cons_succ]))
      refine Lex.lex_nil (fun W hW => ?_)
      have hY := Lex.upd_here (hW.2 9)
      have q0 := blk_cell (i := 0) hY (Ext.refl _) rfl
      have q1 := blk_cell (i := 1) hY (Ext.refl _) rfl
      have q2 := blk_cell (i := 2) hY (Ext.refl _) rfl
      have hn6 := (hoF.mono (S' := fun i => w.heap.size ≤ i) fun i _ hi => Nat.le_trans e0.size hi).keep (w' := W) fun k hk => hW.1.1.block k (hoF.row.lt k hk).2 fun e => hoF.ne hrF (by decide) (by rw [hk, e])
      have he6 : Ext w W := ((e0.trans heF).drew).chg (S := fun i => i = w.heap.size + 1) hW.1.1 fun i hi => by omega
      clear hW d1 d2 w1'
      go_wp2_with fail
      exact bodyPost_ret (v := .tuple #[.agg #[.slice AF (n + N) c2, .slice none 0 0, .int .i64 most], .int .i64 ((m : Int) - N)]) (by simp [results, Try.results37, go_sem, q0, q1, q2]) rfl ⟨he6, _, c2, rfl, by rw [HZ.out]; exact hn6⟩
end Go.Proofs.Ytfhgjopoohfhjaa.Ref13
