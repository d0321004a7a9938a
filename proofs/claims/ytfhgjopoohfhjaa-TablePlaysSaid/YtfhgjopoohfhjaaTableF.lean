/- Which places may be, walked. -/
import Derived.Test.YtfhgjopoohfhjaaTableE
namespace Go.Proofs.Ytfhgjopoohfhjaa.Tbl
open Go.RowKit Base Step Vec Shape Erase
/-- A place's node. -/
def node (p : plS.T) : Int := p.1
def gen (p : plS.T) : Int := p.2.1
theorem place_at {w : World} {A : Option Addr} {n c : Nat} {l : List plS.T} (h : (Sh.sl plS).ok w (A, n, c, l)) {i : Nat} (hi : i < n) : ∃ ad p, A = some ad ∧ l[i]? = some p ∧ w.cell? (ad.add (i * 2)) = some (.int .i64 (node p)) ∧ w.cell? ⟨(ad.add (i * 2)).block, (ad.add (i * 2)).off + 1, none⟩ = some (.int .u32 (gen p)) ∧ (Lit.int .i64 (node p)).wf = true ∧ (Lit.int .u32 (gen p)).wf = true := by
  obtain ⟨h1, h2, h3, h4, h5⟩ : l.length = n ∧ n ≤ c ∧ c ≤ maxLen ∧ (A = none → c = 0) ∧ ∀ (i : Nat) (x : plS.T), l[i]? = some x → plS.ok w x ∧ ∃ ad, A = some ad ∧ ∀ (j : Nat) u, (plS.cells x)[j]? = some u → w.cell? (ad.add (i * plS.size + j)) = some u := h
  obtain ⟨p, hp⟩ : ∃ p, l[i]? = some p := ⟨_, List.getElem?_eq_getElem (by omega)⟩
  obtain ⟨hok, ad, rfl, hc⟩ := h5 i p hp
  obtain ⟨k1, k2, _⟩ : (Lit.int .i64 p.1).wf = true ∧ (Lit.int .u32 p.2.1).wf = true ∧ True := hok
  have hsz : plS.size = 2 := rfl
  rw [hsz] at hc
  have e0 := hc 0 (.int .i64 (node p)) rfl
  have e1 := hc 1 (.int .u32 (gen p)) rfl
  rw [← add_of_add] at e1
  rw [Nat.add_zero] at e0
  exact ⟨ad, p, rfl, hp, e0, e1, k1, k2⟩
/-- A stripe's places that may be: one for each slot, on unlike nodes that are there. -/
structure Right (sl nd : Nat) (l : List plS.T) : Prop where
  on : ∀ p ∈ l, 0 ≤ node p ∧ node p < nd
  apart : (l.map node).Nodup
  all : l.length = sl
/-- Which nodes have been seen. -/
def Seen (w : World) (g : Nat) (f : Nat → Bool) : Prop := ∃ C : Array Value, w.heap[g]? = some (.cells C 295 (0, 0)) ∧ C.size = 32 ∧ ∀ j, j < 32 → C[j]? = some (.bool (f j))
theorem Seen.cell {w : World} {g : Nat} {f : Nat → Bool} (h : Seen w g f) {j : Nat} (hj : j < 32) : w.cell? ⟨g, j, none⟩ = some (.bool (f j)) := by
  obtain ⟨C, h1, h2, h3⟩ := h
  exact blk_cell h1 (Ext.refl _) (h3 j hj)
theorem Seen.free {w : World} {g : Nat} {f : Nat → Bool} (h : Seen w g f) (j : Nat) : w.frozen? ⟨g, j, none⟩ = false := by
  obtain ⟨C, h1, _⟩ := h
  exact Pack.free_of h1 j
theorem Seen.ext {w w' : World} {g : Nat} {f : Nat → Bool} (h : Seen w g f) (he : Ext w w') : Seen w' g f := by
  obtain ⟨C, h1, h2⟩ := h
  exact ⟨C, he.at_ h1, h2⟩
theorem Seen.set {w : World} {g : Nat} {f : Nat → Bool} (h : Seen w g f) {j : Nat} (hj : j < 32) : Seen (w.setCell ⟨g, j, none⟩ (.bool true)) g (fun i => if i = j then true else f i) := by
  obtain ⟨C, h1, h2, h3⟩ := h
  refine ⟨_, set_blk h1 _, by simpa using h2, fun i hi => ?_⟩
  by_cases hij : i = j
  · subst hij
    simp [h2, hi]
  · rw [Array.getElem?_setIfInBounds_ne (Ne.symm hij), h3 i hi]
    simp only [hij, if_false]
/-- A call that tells whether P, and leaves all as it was. -/
def Says (w : World) (P : Prop) (e : Ending) (w' : World) : Prop := Ext w w' ∧ ∃ b : Bool, e = .returned (.bool b) ∧ (b = true ↔ P)
theorem says_yes {w w' : World} {P : Prop} (h : Ext w w') (hp : P) : Says w P (.returned (.bool true)) w' := ⟨h, true, rfl, fun _ => hp, fun _ => rfl⟩
theorem says_no {w w' : World} {P : Prop} (h : Ext w w') (hp : ¬ P) : Says w P (.returned (.bool false)) w' := ⟨h, false, rfl, fun k => (by cases k), fun k => absurd k hp⟩
theorem says_if {w w' : World} {P : Prop} {b : Bool} (h : Ext w w') (hp : b = true ↔ P) : Says w P (.returned (.bool b)) w' := ⟨h, b, rfl, hp⟩
theorem seen_new (w : World) : Seen (w.alloc (.cells #[.bool false, .bool false, .bool false, .bool false, .bool false, .bool false, .bool false, .bool false, .bool false, .bool false, .bool false, .bool false, .bool false, .bool false, .bool false, .bool false, .bool false, .bool false, .bool false, .bool false, .bool false, .bool false, .bool false, .bool false, .bool false, .bool false, .bool false, .bool false, .bool false, .bool false, .bool false, .bool false] 295)) w.heap.size (fun _ => false) :=
  ⟨_, at_new _ _, rfl, fun j hj => match j, hj with
    | 0, _ => rfl
    | 1, _ => rfl
    | 2, _ => rfl
    | 3, _ => rfl
    | 4, _ => rfl
    | 5, _ => rfl
    | 6, _ => rfl
    | 7, _ => rfl
    | 8, _ => rfl
    | 9, _ => rfl
    | 10, _ => rfl
    | 11, _ => rfl
    | 12, _ => rfl
    | 13, _ => rfl
    | 14, _ => rfl
    | 15, _ => rfl
    | 16, _ => rfl
    | 17, _ => rfl
    | 18, _ => rfl
    | 19, _ => rfl
    | 20, _ => rfl
    | 21, _ => rfl
    | 22, _ => rfl
    | 23, _ => rfl
    | 24, _ => rfl
    | 25, _ => rfl
    | 26, _ => rfl
    | 27, _ => rfl
    | 28, _ => rfl
    | 29, _ => rfl
    | 30, _ => rfl
    | 31, _ => rfl
    | k + 32, h => by omega⟩
/-- The first places, seen. -/
structure Pre (nd : Nat) (l : List plS.T) (k : Nat) (f : Nat → Bool) : Prop where
  on : ∀ p ∈ l.take k, 0 ≤ node p ∧ node p < nd
  apart : ((l.take k).map node).Nodup
  seen : ∀ j : Nat, j < 32 → (f j = true ↔ ∃ p ∈ l.take k, node p = j)
theorem Pre.next {nd : Nat} {l : List plS.T} {k : Nat} {f : Nat → Bool} (h : Pre nd l k f) {p : plS.T} (hp : l[k]? = some p) {j : Nat} (hj : node p = j) (hn : j < nd) (hnd : nd ≤ 32) (hf : f j = false) : Pre nd l (k + 1) (fun i => if i = j then true else f i) := by
  have ht : l.take (k + 1) = l.take k ++ [p] := by rw [List.take_add_one, hp]; rfl
  have hno : ∀ q ∈ l.take k, node q ≠ j := fun q hq e => by
    have := (h.seen j (by omega)).2 ⟨q, hq, e⟩
    rw [hf] at this
    cases this
  refine ⟨fun q hq => ?_, ?_, fun i hi => ?_⟩
  · rw [ht] at hq
    rcases List.mem_append.1 hq with hq | hq
    · exact h.on q hq
    · simp at hq
      subst hq
      omega
  · rw [ht, List.map_append, List.nodup_append]
    refine ⟨h.apart, by simp, fun a ha b hb => ?_⟩
    obtain ⟨q, hq, rfl⟩ := List.mem_map.1 ha
    simp at hb
    subst hb
    rw [hj]
    exact hno q hq
  · rw [ht]
    by_cases hij : i = j
    · subst hij
      simp only [if_true, true_iff]
      exact ⟨p, by simp, hj⟩
    · simp only [hij, if_false]
      rw [h.seen i hi]
      constructor
      · rintro ⟨q, hq, e⟩
        exact ⟨q, List.mem_append_left _ hq, e⟩
      · rintro ⟨q, hq, e⟩
        rcases List.mem_append.1 hq with hq | hq
        · exact ⟨q, hq, e⟩
        · simp at hq
          subst hq
          omega
/-- A place that may not be. -/
theorem Pre.bad {sl nd : Nat} {l : List plS.T} {k : Nat} {f : Nat → Bool} (h : Pre nd l k f) {p : plS.T} (hp : l[k]? = some p) (hb : node p < 0 ∨ nd ≤ node p ∨ ∃ j : Nat, j < 32 ∧ node p = j ∧ f j = true) : ¬ Right sl nd l := fun hr => by
  have ho := hr.on p (List.mem_of_getElem? hp)
  rcases hb with hb | hb | ⟨j, hj, e, hf⟩
  · omega
  · omega
  · obtain ⟨q, hq, e2⟩ := (h.seen j hj).1 hf
    have ht : l = l.take k ++ p :: l.drop (k + 1) := by
      have hk := (List.getElem?_eq_some_iff.1 hp).1
      have h2 := (List.getElem?_eq_some_iff.1 hp).2
      rw [← h2, ← List.drop_eq_getElem_cons hk, List.take_append_drop]
    have hn := hr.apart
    rw [ht, List.map_append, List.nodup_append] at hn
    exact hn.2.2 (node q) (List.mem_map.2 ⟨q, hq, rfl⟩) (node p) (by simp) (by rw [e, e2])
set_option maxRecDepth 100000 in
set_option maxHeartbeats 2000000 in
theorem right_calls (gt sl nd : Nat) (nx ls : Int) (A : Option Addr) (n c : Nat) (objs : List Obj) (B : Option Addr) (m cb : Nat) (l : List plS.T) (w : World) (h : TblAt w gt sl nd nx ls A n c objs) (hl : (Sh.sl plS).ok w (B, m, cb, l)) (hnd : nd ≤ 32) (hm : m ≤ 8796093021952) :
    Calls Try.prog 178 #[.pointer (some ⟨gt, 0, none⟩), .slice B m cb] w (Says w (Right sl nd l)) := by
  have H := Lib.hid h
  have HL := Lib.hid hl
  have HN := Lib.hid (sl_len hl).1
  have hmc := (sl_len hl).2.1
  clear h hl
  go_enter Try.func178, Try.ntmps178
  go_upto_region 2 with fail
  have HSE := Lib.hid (seen_new w)
  have e0 := Lib.hid (Ext.new w (.cells #[.bool false, .bool false, .bool false, .bool false, .bool false, .bool false, .bool false, .bool false, .bool false, .bool false, .bool false, .bool false, .bool false, .bool false, .bool false, .bool false, .bool false, .bool false, .bool false, .bool false, .bool false, .bool false, .bool false, .bool false, .bool false, .bool false, .bool false, .bool false, .bool false, .bool false, .bool false, .bool false] 295))
  have hlt0 : w.heap.size < (w.alloc (.cells #[.bool false, .bool false, .bool false, .bool false, .bool false, .bool false, .bool false, .bool false, .bool false, .bool false, .bool false, .bool false, .bool false, .bool false, .bool false, .bool false, .bool false, .bool false, .bool false, .bool false, .bool false, .bool false, .bool false, .bool false, .bool false, .bool false, .bool false, .bool false, .bool false, .bool false, .bool false, .bool false] 295)).heap.size := by simp
  generalize w.alloc (.cells #[.bool false, .bool false, .bool false, .bool false, .bool false, .bool false, .bool false, .bool false, .bool false, .bool false, .bool false, .bool false, .bool false, .bool false, .bool false, .bool false, .bool false, .bool false, .bool false, .bool false, .bool false, .bool false, .bool false, .bool false, .bool false, .bool false, .bool false, .bool false, .bool false, .bool false, .bool false, .bool false] 295) = w0 at *
  have hgt : gt < w.heap.size := H.out.lt
  go_wp2_with fail
  go_loopg [7, 10] m (fun g _ i wr => ∃ k : Nat, k ≤ m ∧ g = m - k ∧ i = .int .i64 k ∧ Hid (Ext w wr ∧ w.heap.size < wr.heap.size ∧ ∃ f, Seen wr w.heap.size f ∧ Pre nd l k f))
  case atStart => exact ⟨0, Nat.zero_le _, rfl, rfl, Lib.hid ⟨e0.out, hlt0, _, HSE.out, ⟨by simp, by simp, fun j _ => by simp⟩⟩⟩
  case round =>
    clear HSE e0 hlt0
    obtain ⟨k, hk, rfl, rfl, hrel⟩ := hrel
    obtain ⟨hex, hsz, f, hse, hpre⟩ := hrel.out
    have HX := Lib.hid hex
    have HSE := Lib.hid hse
    have HP := Lib.hid hpre
    clear hrel hex hse hpre
    by_cases hlt : k < m
    · obtain ⟨ad, p, rfl, hp, d0, d1, hw0, hw1⟩ := place_at HL.out hlt
      have q0 := HX.out.cell_ d0
      have q1 := HX.out.cell_ d1
      have HPP := Lib.hid hp
      obtain ⟨hb0, hb1⟩ := wf_i64 hw0
      clear d0 d1 hp hw0 hw1
      go_upto_region 5 with fail
      have hs9 := at_new wr (.cells #[.int .i64 (node p), .int .u32 (gen p)] 118)
      have HX9 := Lib.hid (HX.out.alloc (.cells #[.int .i64 (node p), .int .u32 (gen p)] 118))
      have HSE9 := Lib.hid (HSE.out.ext (Ext.new wr (.cells #[.int .i64 (node p), .int .u32 (gen p)] 118)))
      have hz9 : wr.heap.size < (wr.alloc (.cells #[.int .i64 (node p), .int .u32 (gen p)] 118)).heap.size := by simp
      generalize wr.alloc (.cells #[.int .i64 (node p), .int .u32 (gen p)] 118) = w9 at *
      have HS9 := Lib.hid hs9
      have HT9 := Lib.hid (HX9.out.at_ H.out.at_)
      clear hs9
      by_cases hneg : node p < 0
      · have HBAD := Lib.hid (HP.out.bad (sl := sl) HPP.out (.inl hneg))
        have t0 : ∀ W, Ext w9.drew W → W.cell? ⟨wr.heap.size, 0, none⟩ = some (.int .i64 (node p)) := fun W hW => blk_cell (i := 0) HS9.out (drew_ext hW) rfl
        have t1 : ∀ W, Ext w9.drew W → W.cell? ⟨gt, 1, none⟩ = some (.int .i64 nd) := fun W hW => blk_cell (i := 1) HT9.out (drew_ext hW) rfl
        refine Lex.wp_region_u [0, 1, 2, 3, 4, 5, 6, 7, 8, 9, 10, 11, 12, 13, 14, 15, 16, 17] [] [] (by kernel_rfl) (by kernel_rfl) (by repeat (first | exact Lex.st_nil | refine Lex.st_cons (by first | exact Lex.nums_st | exact Lex.const_st | exact Lex.such_st | exact Lex.row_st | exact Lex.rowE_st | exact Lex.litR_st | assumption) ?_)) ?_; simp only [Lex.pick, List.getElem?_cons_succ, List.getElem?_cons_zero, List.map_nil]
        repeat (first | (refine Lex.lexU_skip (by rfl) ?_; simp only [Act.put, List.setIfInBounds_toArray, List.set_cons_zero, List.set_cons_succ]) | (refine Lex.lexU_still (by rfl) (by rfl) (by first | exact Base.Ext.refl | exact Lex.Fill.refl) ?_; apply Exists.intro; refine ⟨fun W hW => ?_, ?_⟩; (have hE := Lex.ext_of_cls hW.1; have hE2 := Lex.ext_drew hE; clear hW; go_simp; try with_reducible rfl); simp only [Act.put, List.setIfInBounds_toArray, List.set_cons_zero, List.set_cons_succ]))
        refine Lex.lexU_nil (fun W hW => ?_)
        have hE := Lib.hid (HX9.out.trans (Lex.ext_drew hW.1))
        clear hW t0 t1
        refine Lex.onlyN_intro ?_
        go_wp2_with fail
        go_ret
        exact says_no hE.out HBAD.out
      obtain ⟨j, hj⟩ : ∃ j : Nat, node p = j := ⟨(node p).toNat, by omega⟩
      have HJ := Lib.hid hj
      rw [hj] at HS9 ⊢
      by_cases hbig : nd ≤ j
      · have HBAD := Lib.hid (HP.out.bad (sl := sl) HPP.out (.inr (.inl (by rw [hj]; omega))))
        clear hneg hj
        have t0 : ∀ W, Ext w9.drew W → W.cell? ⟨wr.heap.size, 0, none⟩ = some (.int .i64 (j : Nat)) := fun W hW => blk_cell (i := 0) HS9.out (drew_ext hW) rfl
        have t1 : ∀ W, Ext w9.drew W → W.cell? ⟨gt, 1, none⟩ = some (.int .i64 nd) := fun W hW => blk_cell (i := 1) HT9.out (drew_ext hW) rfl
        refine Lex.wp_region_u [0, 1, 2, 3, 4, 5, 6, 7, 8, 9, 10, 11, 12, 13, 14, 15, 16, 17] [] [] (by kernel_rfl) (by kernel_rfl) (by repeat (first | exact Lex.st_nil | refine Lex.st_cons (by first | exact Lex.nums_st | exact Lex.const_st | exact Lex.such_st | exact Lex.row_st | exact Lex.rowE_st | exact Lex.litR_st | assumption) ?_)) ?_; simp only [Lex.pick, List.getElem?_cons_succ, List.getElem?_cons_zero, List.map_nil]
        repeat (first | (refine Lex.lexU_skip (by rfl) ?_; simp only [Act.put, List.setIfInBounds_toArray, List.set_cons_zero, List.set_cons_succ]) | (refine Lex.lexU_still (by rfl) (by rfl) (by first | exact Base.Ext.refl | exact Lex.Fill.refl) ?_; apply Exists.intro; refine ⟨fun W hW => ?_, ?_⟩; (have hE := Lex.ext_of_cls hW.1; have hE2 := Lex.ext_drew hE; clear hW; go_simp; try with_reducible rfl); simp only [Act.put, List.setIfInBounds_toArray, List.set_cons_zero, List.set_cons_succ]))
        refine Lex.lexU_nil (fun W hW => ?_)
        have hE := Lib.hid (HX9.out.trans (Lex.ext_drew hW.1))
        clear hW t0 t1
        refine Lex.onlyN_intro ?_
        go_wp2_with fail
        go_ret
        exact says_no hE.out HBAD.out
      have hj32 : j < 32 := by omega
      have hi2 : ((j : Nat) : Int) < 32 := by omega
      have t2 : ∀ W, Ext w9.drew W → W.cell? ⟨w.heap.size, j, none⟩ = some (.bool (f j)) := fun W hW => (HSE9.out.ext (drew_ext hW)).cell hj32
      by_cases hf : f j = true
      · have HBAD := Lib.hid (HP.out.bad (sl := sl) HPP.out (.inr (.inr ⟨j, hj32, hj, hf⟩)))
        rw [hf] at t2
        clear hneg hj
        have t0 : ∀ W, Ext w9.drew W → W.cell? ⟨wr.heap.size, 0, none⟩ = some (.int .i64 (j : Nat)) := fun W hW => blk_cell (i := 0) HS9.out (drew_ext hW) rfl
        have t1 : ∀ W, Ext w9.drew W → W.cell? ⟨gt, 1, none⟩ = some (.int .i64 nd) := fun W hW => blk_cell (i := 1) HT9.out (drew_ext hW) rfl
        refine Lex.wp_region_u [0, 1, 2, 3, 4, 5, 6, 7, 8, 9, 10, 11, 12, 13, 14, 15, 16, 17] [] [] (by kernel_rfl) (by kernel_rfl) (by repeat (first | exact Lex.st_nil | refine Lex.st_cons (by first | exact Lex.nums_st | exact Lex.const_st | exact Lex.such_st | exact Lex.row_st | exact Lex.rowE_st | exact Lex.litR_st | assumption) ?_)) ?_; simp only [Lex.pick, List.getElem?_cons_succ, List.getElem?_cons_zero, List.map_nil]
        repeat (first | (refine Lex.lexU_skip (by rfl) ?_; simp only [Act.put, List.setIfInBounds_toArray, List.set_cons_zero, List.set_cons_succ]) | (refine Lex.lexU_still (by rfl) (by rfl) (by first | exact Base.Ext.refl | exact Lex.Fill.refl) ?_; apply Exists.intro; refine ⟨fun W hW => ?_, ?_⟩; (have hE := Lex.ext_of_cls hW.1; have hE2 := Lex.ext_drew hE; clear hW; go_simp; try with_reducible rfl); simp only [Act.put, List.setIfInBounds_toArray, List.set_cons_zero, List.set_cons_succ]))
        refine Lex.lexU_nil (fun W hW => ?_)
        have hE := Lib.hid (HX9.out.trans (Lex.ext_drew hW.1))
        clear hW t0 t1 t2
        refine Lex.onlyN_intro ?_
        go_wp2_with fail
        go_ret
        exact says_no hE.out HBAD.out
      · have hf : f j = false := by simpa using hf
        have HNEXT := Lib.hid (HP.out.next HPP.out hj (by omega) hnd hf)
        rw [hf] at t2
        clear hneg hj
        have t0 : ∀ W, Ext w9.drew W → W.cell? ⟨wr.heap.size, 0, none⟩ = some (.int .i64 (j : Nat)) := fun W hW => blk_cell (i := 0) HS9.out (drew_ext hW) rfl
        have t1 : ∀ W, Ext w9.drew W → W.cell? ⟨gt, 1, none⟩ = some (.int .i64 nd) := fun W hW => blk_cell (i := 1) HT9.out (drew_ext hW) rfl
        refine Lex.wp_region_u [0, 1, 2, 3, 4, 5, 6, 7, 8, 9, 10, 11, 12, 13, 14, 15, 16, 17] [] [] (by kernel_rfl) (by kernel_rfl) (by repeat (first | exact Lex.st_nil | refine Lex.st_cons (by first | exact Lex.nums_st | exact Lex.const_st | exact Lex.such_st | exact Lex.row_st | exact Lex.rowE_st | exact Lex.litR_st | assumption) ?_)) ?_; simp only [Lex.pick, List.getElem?_cons_succ, List.getElem?_cons_zero, List.map_nil]
        repeat (first | (refine Lex.lexU_skip (by rfl) ?_; simp only [Act.put, List.setIfInBounds_toArray, List.set_cons_zero, List.set_cons_succ]) | (refine Lex.lexU_still (by rfl) (by rfl) (by first | exact Base.Ext.refl | exact Lex.Fill.refl) ?_; apply Exists.intro; refine ⟨fun W hW => ?_, ?_⟩; (have hE := Lex.ext_of_cls hW.1; have hE2 := Lex.ext_drew hE; clear hW; go_simp; try with_reducible rfl); simp only [Act.put, List.setIfInBounds_toArray, List.set_cons_zero, List.set_cons_succ]))
        refine Lex.lexU_nil (fun W hW => ?_)
        have hE := Lib.hid (Lex.ext_drew hW.1)
        have hs9 := HSE9.out.ext hE.out
        have y0 : W.cell? ⟨wr.heap.size, 0, none⟩ = some (.int .i64 (j : Nat)) := t0 W hW.1
        have y2 : W.cell? ⟨w.heap.size, j, none⟩ = some (.bool (f j)) := hs9.cell hj32
        have y3 : W.frozen? ⟨w.heap.size, j, none⟩ = false := hs9.free j
        have HS10 := Lib.hid hs9
        have hzz : w9.heap.size ≤ W.heap.size := hE.out.size
        clear hW t0 t1 t2 hs9
        refine Lex.onlyN_intro ?_
        go_wp2_with fail
        go_roundg (m - (k + 1))
        case measure => omega
        case rel => exact ⟨k + 1, by omega, rfl, by first | rfl | go_num, Lib.hid ⟨(HX9.out.trans hE.out).setCell (p := ⟨w.heap.size, j, none⟩) (Nat.le_refl _) _, by simp; omega, _, HS10.out.set hj32, HNEXT.out⟩⟩
    · obtain rfl : k = m := by omega
      have hb := HX.out.at_ H.out.at_
      have y0 : wr.cell? ⟨gt, 0, none⟩ = some (.int .i64 sl) := blk_cell (i := 0) hb (Ext.refl _) rfl
      go_wp2_with fail
      go_ret
      have ht : l.take k = l := List.take_of_length_le (by rw [HN.out]; exact Nat.le_refl _)
      have h1 := HP.out.on
      have h2 := HP.out.apart
      rw [ht] at h1 h2
      refine says_if HX.out ⟨fun hh => ⟨h1, h2, ?_⟩, fun hr => ?_⟩
      · have := HN.out
        have hh : ((k : Int) == (sl : Int)) = true := hh
        simp at hh
        omega
      · have h3 := hr.all
        rw [HN.out] at h3
        subst h3
        show ((k : Int) == (k : Int)) = true
        simp
end Go.Proofs.Ytfhgjopoohfhjaa.Tbl
