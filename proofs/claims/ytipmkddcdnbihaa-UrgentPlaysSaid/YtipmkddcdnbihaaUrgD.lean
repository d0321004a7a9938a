/- A queue's Get, First, Put: walked. -/
import Derived.Test.YtipmkddcdnbihaaUrgC
import Derived.Test.YtipmkddcdnbihaaOrd
import Derived.Test.YtipmkddcdnbihaaRowSt
import Derived.Test.YtipmkddcdnbihaaFill
import Derived.Deep.DeepCutAuto
import Derived.Deep.CutBlock
namespace Go.Proofs.Ytipmkddcdnbihaa.Urg
open Go.RowKit Base Step MapIs Vec
open UrgP
/-- Where the job of a key stands. -/
def posOf (l : List Job) (k : Int × Int) : Option Nat := l.findIdx? fun j => decide (UrgP.key j = k)
theorem posOf_some {l : List Job} {k : Int × Int} {i : Nat} (h : posOf l k = some i) : i < l.length ∧ UrgP.key (at_ l i) = k := by
  unfold posOf at h
  obtain ⟨h1, h2, _⟩ := List.findIdx?_eq_some_iff_getElem.1 h
  refine ⟨h1, ?_⟩
  rw [at_eq (List.getElem?_eq_getElem h1)]
  simpa using h2
theorem posOf_none {l : List Job} {k : Int × Int} (h : posOf l k = none) : ∀ j ∈ l, UrgP.key j ≠ k := by
  unfold posOf at h
  intro j hj
  have := List.findIdx?_eq_none_iff.1 h j hj
  simpa using this
/-- The look-up of a key. -/
theorem QueAt.look {w : World} {S : Nat → Prop} {gq gm : Nat} {l : List Job} (h : QueAt w S gq gm l) {k : Int × Int} (h1 : 0 ≤ k.1) (h2 : k.1 < 4294967296) (h3 : 0 ≤ k.2) (h4 : k.2 < 65536) :
    (∃ i, posOf l k = some i ∧ ∀ c : Bool, (Instr.lookup 51 (.map (some gm)) (kV k) c).run Try.prog w = .ok (if c then .tuple #[.int .i64 i, .bool true] else .int .i64 i) w) ∨
    (posOf l k = none ∧ (Instr.lookup 51 (.map (some gm)) (kV k) true).run Try.prog w = .ok (.tuple #[.int .i64 0, .bool false]) w) := by
  cases hp : posOf l k with
  | some i =>
    left
    obtain ⟨hi, hk⟩ := posOf_some hp
    have hm : (kV k, (i : Int)) ∈ ents l := ents_mem.2 ⟨i, _, at_get hi, by rw [← hk]⟩
    obtain ⟨x, y⟩ := h.mp.hit key_keyed Try.underlying51 Try.underlying3 (int_zero w) hm
    exact ⟨i, rfl, fun c => by cases c; exact y; exact x⟩
  | none =>
    right
    obtain ⟨kl, hkl⟩ := key_of h1 h2 h3 h4
    refine ⟨rfl, h.mp.miss key_keyed Try.underlying51 Try.underlying3 (int_zero w) hkl fun hm => ?_⟩
    rw [ents_keys] at hm
    obtain ⟨j, hj, he⟩ := List.mem_map.1 hm
    exact posOf_none hp j hj (kV_inj he)
theorem queAt_rest {w w' : World} {S S2 : Nat → Prop} {gq gm : Nat} {l : List Job} (h : QueAt w S gq gm l) (hs : w.heap.size ≤ w'.heap.size) : ∀ i, S i → i < w'.heap.size := fun i hi => Nat.lt_of_lt_of_le (h.lt i hi) hs
set_option maxRecDepth 100000 in
set_option maxHeartbeats 2000000 in
theorem get_calls (S : Nat → Prop) (gq gm : Nat) (l : List Job) (o s : Int) (w : World) (h : QueAt w S gq gm l) (h1 : 0 ≤ o) (h2 : o < 4294967296) (h3 : 0 ≤ s) (h4 : s < 65536) (hlen : l.length ≤ 1099511627776) :
    Calls Try.prog 25 #[.pointer (some ⟨gq, 0, none⟩), kV (o, s)] w fun e w' => Ext w w' ∧ ((posOf l (o, s) = none ∧ e = .returned (.tuple #[jobA ⟨0, 0, 0⟩, .bool false])) ∨ ∃ i, posOf l (o, s) = some i ∧ e = .returned (.tuple #[jobA (at_ l i), .bool true])) := by
  have e0 := Ext.new w (.cells #[.int .u32 o, .int .u16 s] 30)
  have hb0 := at_new w (.cells #[.int .u32 o, .int .u16 s] 30)
  have hz0 : (w.alloc (.cells #[.int .u32 o, .int .u16 s] 30)).heap.size = w.heap.size + 1 := by simp
  have H0 := Lib.hid (h.ext e0)
  have E0 := Lib.hid e0
  clear h e0
  go_enter Try.func25, Try.ntmps25
  go_upto_region 1 with fail
  generalize w.alloc (.cells #[.int .u32 o, .int .u16 s] 30) = w0 at *
  have e1 := Ext.new w0 (.cells #[.int .u32 0, .int .u16 0, .int .i64 0] 32)
  have hb1 := at_new w0 (.cells #[.int .u32 0, .int .u16 0, .int .i64 0] 32)
  have hb2 := e1.at_ hb0
  rw [hz0] at hb1
  have H1 := Lib.hid (H0.out.ext e1)
  have E1 := Lib.hid (E0.out.trans e1)
  clear e1 H0 E0 hz0 hb0
  generalize w0.alloc (.cells #[.int .u32 0, .int .u16 0, .int .i64 0] 32) = wa at *
  have k0 : ∀ W, Ext wa.drew W → W.cell? ⟨w.heap.size, 0, none⟩ = some (.int .u32 o) := fun W hW => blk_cell (i := 0) hb2 (drew_ext hW) rfl
  have k1 : ∀ W, Ext wa.drew W → W.cell? ⟨w.heap.size, 1, none⟩ = some (.int .u16 s) := fun W hW => blk_cell (i := 1) hb2 (drew_ext hW) rfl
  obtain ⟨A, c, hat, hown⟩ := H1.out.row
  have q1 : ∀ W, Ext wa.drew W → W.cell? ⟨gq, 1, none⟩ = some (.map (some gm)) := fun W hW => blk_cell (i := 1) hat (drew_ext hW) rfl
  have B1 := Lib.hid hb1
  clear hb1 hb2
  rcases H1.out.look (k := (o, s)) h1 h2 h3 h4 with ⟨i, hp, hl⟩ | ⟨hp, hl⟩
  · have hll : ∀ W, Ext wa.drew W → (Instr.lookup 51 (.map (some gm)) (.agg #[.int .u32 o, .int .u16 s]) true).run Try.prog W = .ok (.tuple #[.int .i64 i, .bool true]) W := fun W hW => by
      rcases (H1.out.ext (drew_ext hW)).look (k := (o, s)) h1 h2 h3 h4 with ⟨i', hp', hl'⟩ | ⟨hp', _⟩
      · rw [hp] at hp'
        cases hp'
        exact hl' true
      · rw [hp] at hp'
        cases hp'
    have HP := Lib.hid hp
    have hi := (posOf_some hp).1
    clear hp hl hown hat
    go_wp2_with fail
    refine Lex.wp_region_u [0, 1, 2, 3, 4, 5, 6, 7, 8, 9, 10] [] [] (by kernel_rfl) (by kernel_rfl) (by repeat (first | exact Lex.st_nil | refine Lex.st_cons (by first | exact Lex.nums_st | exact Lex.const_st | exact Lex.such_st | exact Lex.row_st | exact Lex.rowE_st | exact Lex.litR_st | assumption) ?_)) ?_; simp only [Lex.pick, List.getElem?_cons_succ, List.getElem?_cons_zero, List.map_nil]
    repeat (first | (refine Lex.lexU_skip (by rfl) ?_; simp only [Act.put, List.setIfInBounds_toArray, List.set_cons_zero, List.set_cons_succ]) | (refine Lex.lexU_still (by rfl) (by rfl) (by first | exact Base.Ext.refl | exact Lex.Fill.refl) ?_; apply Exists.intro; refine ⟨fun W hW => ?_, ?_⟩; (have hE := Lex.ext_of_cls hW.1; have hE2 := Lex.ext_drew hE; clear hW; go_simp; try with_reducible rfl); simp only [Act.put, List.setIfInBounds_toArray, List.set_cons_zero, List.set_cons_succ]))
    refine Lex.lexU_nil (fun W hW => ?_)
    have hE := Lib.hid (Lex.ext_drew hW.1)
    clear hW k0 k1 q1 hll
    refine Lex.onlyN_intro ?_
    obtain ⟨g, c', q0, _, p0, p1, p2⟩ := (H1.out.ext hE.out).cells hi
    have hiI : (i : Int) < l.length := by omega
    have hb5 := hE.out.at_ B1.out
    obtain ⟨j, hj⟩ : ∃ j, j = at_ l i := ⟨_, rfl⟩
    rw [← hj] at p0 p1 p2
    have HJ := Lib.hid hj
    clear hj
    go_wp2_with (refine RowSt.wpList_put 32 _ _ rfl rfl rfl (w.heap.size + 1) #[.int .u32 j.o, .int .u16 j.s, .int .i64 j.g] rfl rfl 32 _ hb5 (by kernel_rfl) rfl (by simp [Value.oneCell']) ?_; intro w8 hb8 hc8)
    refine bodyPost_ret (v := .tuple #[jobA j, .bool true]) (RowSt.results_cell_tmp (p := 4) (q := 5) rfl _ _ (w.heap.size + 1) 32 _ (0, 0) _ rfl hb8 Try.underlying32 rfl (by kernel_rfl)) rfl ?_
    exact ⟨(E1.out.trans hE.out).chg hc8 fun q h => by have h : q = w.heap.size + 1 := h; omega, .inr ⟨i, HP.out, by rw [HJ.out]⟩⟩
  · have hll : ∀ W, Ext wa.drew W → (Instr.lookup 51 (.map (some gm)) (.agg #[.int .u32 o, .int .u16 s]) true).run Try.prog W = .ok (.tuple #[.int .i64 0, .bool false]) W := fun W hW => by
      rcases (H1.out.ext (drew_ext hW)).look (k := (o, s)) h1 h2 h3 h4 with ⟨i', hp', hl'⟩ | ⟨_, hl'⟩
      · rw [hp] at hp'
        cases hp'
      · exact hl'
    have HP := Lib.hid hp
    clear hp hl hown hat
    go_wp2_with fail
    refine Lex.wp_region_u [0, 1, 2, 3, 4, 5, 6, 7, 8, 9, 10] [] [] (by kernel_rfl) (by kernel_rfl) (by repeat (first | exact Lex.st_nil | refine Lex.st_cons (by first | exact Lex.nums_st | exact Lex.const_st | exact Lex.such_st | exact Lex.row_st | exact Lex.rowE_st | exact Lex.litR_st | assumption) ?_)) ?_; simp only [Lex.pick, List.getElem?_cons_succ, List.getElem?_cons_zero, List.map_nil]
    repeat (first | (refine Lex.lexU_skip (by rfl) ?_; simp only [Act.put, List.setIfInBounds_toArray, List.set_cons_zero, List.set_cons_succ]) | (refine Lex.lexU_still (by rfl) (by rfl) (by first | exact Base.Ext.refl | exact Lex.Fill.refl) ?_; apply Exists.intro; refine ⟨fun W hW => ?_, ?_⟩; (have hE := Lex.ext_of_cls hW.1; have hE2 := Lex.ext_drew hE; clear hW; go_simp; try with_reducible rfl); simp only [Act.put, List.setIfInBounds_toArray, List.set_cons_zero, List.set_cons_succ]))
    refine Lex.lexU_nil (fun W hW => ?_)
    have hE := Lib.hid (Lex.ext_drew hW.1)
    clear hW k0 k1 q1 hll
    refine Lex.onlyN_intro ?_
    have hb5 := hE.out.at_ B1.out
    go_wp2_with (refine RowSt.wpList_put 32 _ _ rfl rfl rfl (w.heap.size + 1) #[.int .u32 0, .int .u16 0, .int .i64 0] rfl rfl 32 _ hb5 (by kernel_rfl) rfl (by simp [Value.oneCell']) ?_; intro w8 hb8 hc8)
    refine bodyPost_ret (v := .tuple #[jobA ⟨0, 0, 0⟩, .bool false]) (RowSt.results_cell_tmp (p := 4) (q := 5) rfl _ _ (w.heap.size + 1) 32 _ (0, 0) _ rfl hb8 Try.underlying32 rfl (by kernel_rfl)) rfl ?_
    exact ⟨(E1.out.trans hE.out).chg hc8 fun q h => by have h : q = w.heap.size + 1 := h; omega, .inl ⟨HP.out, rfl⟩⟩
set_option maxRecDepth 100000 in
theorem get_nil (o s : Int) (w : World) : Calls Try.prog 25 #[.pointer none, kV (o, s)] w fun e w' => e = .returned (.tuple #[jobA ⟨0, 0, 0⟩, .bool false]) ∧ Ext w w' := by
  have e0 := Lib.hid (Ext.new w (.cells #[.int .u32 o, .int .u16 s] 30))
  have hz0 : (w.alloc (.cells #[.int .u32 o, .int .u16 s] 30)).heap.size = w.heap.size + 1 := by simp
  go_enter Try.func25, Try.ntmps25
  go_upto_region 1 with fail
  generalize w.alloc (.cells #[.int .u32 o, .int .u16 s] 30) = w0 at *
  have e1 := Ext.new w0 (.cells #[.int .u32 0, .int .u16 0, .int .i64 0] 32)
  have hb1 := at_new w0 (.cells #[.int .u32 0, .int .u16 0, .int .i64 0] 32)
  rw [hz0] at hb1
  have E1 := Lib.hid (e0.out.trans e1)
  clear e1 hz0
  generalize w0.alloc (.cells #[.int .u32 0, .int .u16 0, .int .i64 0] 32) = wa at *
  go_wp2_with (refine RowSt.wpList_put 32 _ _ rfl rfl rfl (w.heap.size + 1) #[.int .u32 0, .int .u16 0, .int .i64 0] rfl rfl 32 _ hb1 (by kernel_rfl) rfl (by simp [Value.oneCell']) ?_; intro w8 hb8 hc8)
  refine bodyPost_ret (v := .tuple #[jobA ⟨0, 0, 0⟩, .bool false]) (RowSt.results_cell_tmp (p := 4) (q := 5) rfl _ _ (w.heap.size + 1) 32 _ (0, 0) _ rfl hb8 Try.underlying32 rfl (by kernel_rfl)) rfl ?_
  exact ⟨rfl, E1.out.chg hc8 fun q h => by have h : q = w.heap.size + 1 := h; omega⟩
set_option maxRecDepth 100000 in
set_option maxHeartbeats 2000000 in
theorem first_calls (S : Nat → Prop) (gq gm : Nat) (l : List Job) (w : World) (h : QueAt w S gq gm l) (hlen : l.length ≤ 1099511627776) :
    Calls Try.prog 26 #[.pointer (some ⟨gq, 0, none⟩)] w fun e w' => Ext w w' ∧ ((l = [] ∧ e = .returned (.tuple #[jobA ⟨0, 0, 0⟩, .bool false])) ∨ (l ≠ [] ∧ e = .returned (.tuple #[jobA (at_ l 0), .bool true]))) := by
  have e1 := Ext.new w (.cells #[.int .u32 0, .int .u16 0, .int .i64 0] 32)
  have hb1 := at_new w (.cells #[.int .u32 0, .int .u16 0, .int .i64 0] 32)
  have H1 := Lib.hid (h.ext e1)
  have E1 := Lib.hid e1
  clear h e1
  go_enter Try.func26, Try.ntmps26
  go_upto_region 1 with fail
  generalize w.alloc (.cells #[.int .u32 0, .int .u16 0, .int .i64 0] 32) = wa at *
  have B1 := Lib.hid hb1
  clear hb1
  go_wp2_with fail
  refine (len_calls S gq gm l _ H1.out).mono ?_
  rintro e w1 ⟨rfl, rfl⟩
  have hb5 := B1.out
  by_cases hl : l = []
  · have hl0 : l.length = 0 := by rw [hl]; rfl
    have HL := Lib.hid hl
    clear hl
    go_wp2_with (refine RowSt.wpList_put 32 _ _ rfl rfl rfl w.heap.size #[.int .u32 0, .int .u16 0, .int .i64 0] rfl rfl 32 _ hb5 (by kernel_rfl) rfl (by simp [Value.oneCell']) ?_; intro w8 hb8 hc8)
    refine bodyPost_ret (v := .tuple #[jobA ⟨0, 0, 0⟩, .bool false]) (RowSt.results_cell_tmp (p := 2) (q := 3) rfl _ _ w.heap.size 32 _ (0, 0) _ rfl hb8 Try.underlying32 rfl (by kernel_rfl)) rfl ?_
    exact ⟨E1.out.chg hc8 fun q h => by have h : q = w.heap.size := h; omega, .inl ⟨HL.out, rfl⟩⟩
  · have hi : 0 < l.length := List.length_pos_iff.2 hl
    have hl0 : ¬ l.length = 0 := by omega
    have HL := Lib.hid hl
    clear hl
    obtain ⟨g, c', q0, _, p0, p1, p2⟩ := H1.out.cells hi
    rw [Nat.zero_mul] at p0 p1 p2
    rw [Nat.zero_add] at p1 p2
    obtain ⟨j, hj⟩ : ∃ j, j = at_ l 0 := ⟨_, rfl⟩
    rw [← hj] at p0 p1 p2
    have HJ := Lib.hid hj
    clear hj
    go_wp2_with (refine RowSt.wpList_put 32 _ _ rfl rfl rfl w.heap.size #[.int .u32 j.o, .int .u16 j.s, .int .i64 j.g] rfl rfl 32 _ hb5 (by kernel_rfl) rfl (by simp [Value.oneCell']) ?_; intro w8 hb8 hc8)
    refine bodyPost_ret (v := .tuple #[jobA j, .bool true]) (RowSt.results_cell_tmp (p := 2) (q := 3) rfl _ _ w.heap.size 32 _ (0, 0) _ rfl hb8 Try.underlying32 rfl (by kernel_rfl)) rfl ?_
    exact ⟨E1.out.chg hc8 fun q h => by have h : q = w.heap.size := h; omega, .inr ⟨HL.out, by rw [HJ.out]⟩⟩
set_option maxRecDepth 100000 in
theorem first_nil (w : World) : Calls Try.prog 26 #[.pointer none] w fun e w' => e = .returned (.tuple #[jobA ⟨0, 0, 0⟩, .bool false]) ∧ Ext w w' := by
  have e1 := Ext.new w (.cells #[.int .u32 0, .int .u16 0, .int .i64 0] 32)
  have hb1 := at_new w (.cells #[.int .u32 0, .int .u16 0, .int .i64 0] 32)
  have E1 := Lib.hid e1
  clear e1
  go_enter Try.func26, Try.ntmps26
  go_upto_region 1 with fail
  generalize w.alloc (.cells #[.int .u32 0, .int .u16 0, .int .i64 0] 32) = wa at *
  go_wp2_with fail
  refine (len_nil _).mono ?_
  rintro e w1 ⟨rfl, rfl⟩
  go_wp2_with (refine RowSt.wpList_put 32 _ _ rfl rfl rfl w.heap.size #[.int .u32 0, .int .u16 0, .int .i64 0] rfl rfl 32 _ hb1 (by kernel_rfl) rfl (by simp [Value.oneCell']) ?_; intro w8 hb8 hc8)
  refine bodyPost_ret (v := .tuple #[jobA ⟨0, 0, 0⟩, .bool false]) (RowSt.results_cell_tmp (p := 2) (q := 3) rfl _ _ w.heap.size 32 _ (0, 0) _ rfl hb8 Try.underlying32 rfl (by kernel_rfl)) rfl ?_
  exact ⟨rfl, E1.out.chg hc8 fun q h => by have h : q = w.heap.size := h; omega⟩
end Go.Proofs.Ytipmkddcdnbihaa.Urg
