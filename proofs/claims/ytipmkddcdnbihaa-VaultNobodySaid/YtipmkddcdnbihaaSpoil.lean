/- A disk's Spoil, walked. -/
import Derived.Test.YtipmkddcdnbihaaDisk
import Derived.Test.YtipmkddcdnbihaaLexU
import Derived.Test.YtipmkddcdnbihaaFill
namespace Go.Proofs.Ytipmkddcdnbihaa.Disk
open Go.RowKit Base Step Vec
open DiskP (readC over puts put1 cutN torn crash)
/-- A byte's bits turned. -/
def spoilt (xs : List Int) (k : Nat) (b : Int) : List Int := xs.set k (bits .xor .u8 (xs.getD k 0) b)
theorem setCell_comm (w : World) {p q : Addr} (h : p.block ≠ q.block) (u v : Value) : (w.setCell p u).setCell q v = (w.setCell q v).setCell p u := by
  unfold World.setCell
  congr 1
  apply Array.ext_getElem?
  intro i
  simp only [Array.getElem?_modify]
  by_cases h1 : q.block = i <;> by_cases h2 : p.block = i
  · exact absurd (h2.trans h1.symm) h
  · simp only [h1, h2, if_true, if_false]
  · simp only [h1, h2, if_true, if_false]
  · simp only [h1, h2, if_false]
set_option maxRecDepth 100000 in
set_option maxHeartbeats 2000000 in
theorem spoil_calls (S : Nat → Prop) (g : Nat) (size : Int) (cells : List (List Int)) (loose : List (Int × List Int)) (syncs : Int) (w : World) (h : Disk w S g size cells loose syncs) (c : Nat) (hc : c < cells.length) (k : Nat) (hk : k < (cells[c]).length) (b : Int) (hb : (Lit.int .u8 b).wf = true) (hbx : (Lit.int .u8 (bits .xor .u8 ((cells[c]).getD k 0) b)).wf = true) :
    Calls Try.prog 135 #[.pointer (some ⟨g, 0, none⟩), .int .i64 c, .int .i64 k, .int .u8 b] w fun e w' => e = .returned (.int .i64 0) ∧ Disk w' (Plus S w w') g size (cells.set c (spoilt cells[c] k b)) loose syncs ∧ Chg S w w' := by
  obtain ⟨CA, cn, cc, LA, ln, lc, cvs, lws, h⟩ := h
  obtain ⟨rfl, rfl⟩ := h.len
  have hcm := h.cells.2
  have hcl := h.clen cells[c] (List.getElem_mem hc)
  have hmost := h.most.1
  obtain ⟨xs, hxs⟩ : ∃ xs, xs = cells[c] := ⟨_, rfl⟩
  rw [← hxs] at hk hbx hcl ⊢
  have HXS := Lib.hid hxs
  obtain ⟨u0, hu0, hB0⟩ := h.crep.at_ (i := c) (y := xs) (by rw [hxs]; exact List.getElem?_eq_getElem hc)
  obtain ⟨ad, rfl, hcell⟩ := own_cell h.cown hu0
  obtain ⟨A, n, c', rfl, hown, hwf⟩ := hB0
  have hl : xs.length = n := by have := hown.row.1; simpa [nums] using this
  subst hl
  have hd1 : w.cell? ⟨g, 1, none⟩ = some (.slice (some ad) cells.length cc) := h.flds.2.1 _ (Ext.refl _)
  have q1 : ∀ W, Ext w.drew W → W.cell? ⟨g, 1, none⟩ = some (.slice (some ad) cells.length cc) := fun W hW => h.flds.2.1 W (drew_ext hW)
  have q2 : ∀ W, Ext w.drew W → W.cell? (ad.add c) = some (.slice A xs.length c') := fun W hW => (drew_ext hW).cell_ hcell
  have HRD := Lib.hid (hown.rd hwf)
  have HWF := Lib.hid hwf
  have HD := Lib.hid h
  clear hxs hown hwf h hu0
  go_enter Try.func135, Try.ntmps135
  go_wp2_with fail
  refine Lex.wp_region_u [0, 1, 2, 3, 4, 5, 6, 7, 8, 9, 10, 11, 12, 13] [14] [(12, .row w 5 .u8 xs.length xs)] (by kernel_rfl) (by kernel_rfl) (by repeat (first | exact Lex.st_nil | refine Lex.st_cons (by first | exact Lex.nums_st | exact Lex.const_st | exact Lex.such_st | exact Lex.row_st | exact Lex.rowE_st | exact Lex.litR_st | assumption) ?_)) ?_; simp only [Lex.pick, List.getElem?_cons_succ, List.getElem?_cons_zero, List.map_cons, List.map_nil]
  repeat (first | (refine Lex.lexU_skip (by rfl) ?_; simp only [Act.put, List.setIfInBounds_toArray, List.set_cons_zero, List.set_cons_succ]) | (refine Lex.lexU_still (by rfl) (by rfl) (by first | exact Base.Ext.refl | exact Lex.Fill.refl) ?_; apply Exists.intro; refine ⟨fun W hW => ?_, ?_⟩; (have hE := Lex.ext_of_cls hW.1; have hE2 := Lex.ext_drew hE; clear hW; go_simp; try with_reducible rfl); simp only [Act.put, List.setIfInBounds_toArray, List.set_cons_zero, List.set_cons_succ]))
  refine Lex.lexU_loose (by rfl) (by rfl) (fun W hW => ?_) ?_
  · have hE := Lex.ext_drew (Lex.ext_of_cls hW.1)
    clear hW
    go_simp
    refine (clone8 A xs.length c' xs _ (HRD.out.ext hE) (by omega)).mono ?_
    rintro e w8 ⟨he8, A8, c8, rfl, ho8⟩
    exact ⟨_, rfl, ⟨A8, c8, rfl, ho8.cap.1⟩, he8, Lex.row_mk (ho8.mono fun i _ hi => Nat.le_trans hE.size hi)⟩
  rintro v ⟨A9, c9, rfl, hc9⟩
  simp only [Act.put, List.setIfInBounds_toArray, List.set_cons_zero, List.set_cons_succ]
  repeat (first | (refine Lex.lexU_skip (by rfl) ?_; simp only [Act.put, List.setIfInBounds_toArray, List.set_cons_zero, List.set_cons_succ]) | (refine Lex.lexU_still (by rfl) (by rfl) (by first | exact Base.Ext.refl | exact Lex.Fill.refl) ?_; apply Exists.intro; refine ⟨fun W hW => ?_, ?_⟩; (have hE := Lex.ext_of_cls hW.1; have hE2 := Lex.ext_drew hE; clear hW; go_simp; try with_reducible rfl); simp only [Act.put, List.setIfInBounds_toArray, List.set_cons_zero, List.set_cons_succ]))
  refine Lex.lexU_nil (fun W hW => ?_)
  have hE := Lib.hid (Lex.ext_drew hW.1)
  have ho9 := (hW.2 12).2 rfl _ _ rfl
  clear hW q1 q2
  obtain ⟨ad9, hA9, hx9⟩ := own_cell ho9 (j := k) (u := .int .u8 (xs.getD k 0)) (by simp [nums, List.getD_eq_getElem?_getD, hk])
  have hf9 := ho9
  rw [hA9] at ho9 ⊢
  have HO9 := Lib.hid ho9
  have hD5 := HD.out.ext hE.out
  have hfr : W.frozen? (ad.add c) = false := own_free hD5.cown c
  have hcc : W.cell? (ad.add c) = some (.slice A xs.length c') := hE.out.cell_ hcell
  have hbl : w.heap.size ≤ ad9.block := ho9.foot _ rfl
  have hadS : S ad.block := hD5.cown.foot _ rfl
  have hadl : ad.block < w.heap.size := HD.out.lt _ hadS
  have hs9 : ad9.block < W.heap.size := by
    obtain ⟨cur, _, h9, _⟩ := own_at ho9
    exact Pack.lt_of_at h9
  clear hcell hd1 hf9
  go_wp2_with fail
  simp only [Lex.onlyN]
  have hc1 : Chg (fun i => i = ad.block) W (W.setCell (ad.add c) (.slice (some ad9) xs.length c9)) := Chg.setCell (S := fun i => i = ad.block) (Chg.refl _ _) (p := ad.add c) (block_add _ _) _
  have hm5 := hD5.mono (S2 := fun i => S i ∨ (w.heap.size ≤ i ∧ i < W.heap.size)) (fun i => .inl) (fun i hi => hi.elim (fun k => Nat.lt_of_lt_of_le (HD.out.lt i k) hE.out.size) fun k => k.2)
  have hb9 : BytesD W (fun i => S i ∨ (w.heap.size ≤ i ∧ i < W.heap.size)) (.slice (some ad9) xs.length c9) xs := ⟨_, _, _, rfl, HO9.out.mono fun i hi k => .inr ⟨k, hi⟩, HWF.out⟩
  have hp := hm5.put c hb9 hcl
  have ho1 : Own (W.setCell (ad.add c) (.slice (some ad9) xs.length c9)) (fun i => w.heap.size ≤ i) 5 1 (.slice (some ad9) xs.length c9) xs.length (nums .u8 xs) := HO9.out.keep fun i hi => hc1.block i (by cases hi; exact hs9) (by cases hi; intro k; have k : ad9.block = ad.block := k; omega)
  have d1 := hp.flds.2.1 _ (Ext.refl _)
  obtain ⟨ad', e', d2⟩ := own_cell hp.cown (j := c) (u := .slice (some ad9) xs.length c9) (by rw [List.getElem?_set_self]; have := HD.out.crep.len; omega)
  cases e'
  obtain ⟨ad'', e'', d3⟩ := own_cell ho1 (j := k) (u := .int .u8 (xs.getD k 0)) (by simp [nums, List.getD_eq_getElem?_getD, hk])
  cases e''
  have f3 : (W.setCell (ad.add c) (.slice (some ad9) xs.length c9)).frozen? (ad9.add k) = false := own_free ho1 k
  -- the world behind both stores
  have hx : W.setCell (ad.add c) (.slice (some ad9) xs.length c9) = W.setCell (ad.add c) (.slice (some ad9) xs.length c9) := rfl
  have hne : (ad9.add k).block ≠ (ad.add c).block := by rw [block_add, block_add]; omega
  have hbx0 : ∀ x ∈ spoilt xs k b, (Lit.int .u8 x).wf = true := fun x hx => (List.mem_or_eq_of_mem_set hx).elim (HWF.out x) fun e => e ▸ hbx
  have hcb : Chg (fun i => i = ad9.block) W (W.setCell (ad9.add k) (.int .u8 (bits .xor .u8 (xs.getD k 0) b))) := Chg.setCell (S := fun i => i = ad9.block) (Chg.refl _ _) (p := ad9.add k) (block_add _ _) _
  have hD6 := (hD5.chg hcb (fun i hi k => by have k : i = ad9.block := k; have := HD.out.lt i hi; omega)).mono (S2 := fun i => S i ∨ (w.heap.size ≤ i ∧ i < W.heap.size)) (fun i => .inl) (fun i hi => by simpa using hi.elim (fun k => Nat.lt_of_lt_of_le (HD.out.lt i k) hE.out.size) fun k => k.2)
  have hD7 := hD6.put c (v := .slice (some ad9) xs.length c9) (xs := spoilt xs k b) ⟨_, _, _, rfl, (own_set HO9.out hk _).mono fun i hi k => .inr ⟨k, by simpa using hi⟩, hbx0⟩ (by simpa [spoilt] using hcl)
  rw [setCell_comm W hne] at hD7
  have HF := Lib.hid hD7
  have HC2 := Lib.hid (((Below.chg (S := S) hE.out).setCell (p := ad.add c) (by rw [block_add]; exact hadS) (.slice (some ad9) xs.length c9)))
  clear hx hD7 hD6 hp ho1 hm5 hb9 hD5 hcb hc1 ho9 HO9 hx9 hfr hcc
  have hsz : (W.setCell (ad.add c) (.slice (some ad9) xs.length c9)).heap.size = W.heap.size := by simp
  generalize W.setCell (ad.add c) (.slice (some ad9) xs.length c9) = W1 at *
  obtain ⟨z, hz⟩ : ∃ z, xs.getD k 0 = z := ⟨_, rfl⟩
  rw [hz] at d3 HF
  clear hz hbx
  go_wp2_with fail
  go_ret
  refine ⟨rfl, ⟨_, _, _, _, _, _, _, _, HF.out.mono (fun i hi => hi.imp id fun k => ⟨k.1, by have h2 : i < W.heap.size := k.2; show i < (W1.setCell _ _).heap.size; simp; omega⟩) (fun i hi => ?_)⟩, ?_⟩
  · refine hi.elim (fun k => ?_) fun k => k.2
    have h1 := HD.out.lt i k
    have h2 : w.heap.size ≤ W.heap.size := hE.out.size
    simp
    omega
  · refine HC2.out.step (S' := fun i => i = ad9.block) (Chg.setCell (S := fun i => i = ad9.block) (Chg.refl _ _) (p := ad9.add k) (block_add _ _) _) fun i hi k => ?_
    have k : i = ad9.block := k
    omega
end Go.Proofs.Ytipmkddcdnbihaa.Disk
