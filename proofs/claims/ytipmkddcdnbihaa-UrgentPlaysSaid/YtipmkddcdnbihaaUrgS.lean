/- A job exchanged with itself, walked. -/
import Derived.Test.YtipmkddcdnbihaaUrgB
namespace Go.Proofs.Ytipmkddcdnbihaa.Urg
open Go.RowKit Base Step MapIs Vec
open UrgP
set_option maxRecDepth 100000 in
set_option maxHeartbeats 8000000 in
theorem swap_self (S : Nat → Prop) (gq gm : Nat) (l : List Job) (i : Nat) (w : World) (h : QueAt w S gq gm l) (hi : i < l.length) (hk : i < l.length) (hlen : l.length ≤ 1099511627776) :
    Calls Try.prog 80 #[.pointer (some ⟨gq, 0, none⟩), .int .i64 i, .int .i64 i] w fun e w' => e = .returned (.tuple #[]) ∧ QueAt w' S gq gm (swp l i i) ∧ Chg S w w' := by
  obtain ⟨A, c, hat, hown⟩ := h.row
  obtain ⟨g, rfl, i0, i1, i2⟩ := row_cell hown (at_get hi)
  obtain ⟨_, e, k0, k1, k2⟩ := row_cell hown (at_get hk)
  cases e
  obtain ⟨_, cur, e, hblk, hnc, hcm, hcs, hcx, hS, hfl⟩ := Splice.blk_own hown
  cases e
  obtain ⟨n, hn⟩ : ∃ n, n = l.length := ⟨_, rfl⟩
  have hb3 : ∀ x, x < n → x * 3 + 3 ≤ cur.size := fun x hx => by rw [hcs]; omega
  have q0 : w.cell? ⟨gq, 0, none⟩ = some (.slice (some ⟨g, 0, none⟩) n c) := by rw [hn]; exact blk_cell (i := 0) hat (Ext.refl _) rfl
  obtain ⟨jo, hjo⟩ : ∃ x, x = at_ l i := ⟨_, rfl⟩
  have hko := hjo
  rw [← hjo] at i0 i1 i2
  clear k0 k1 k2
  have fi0 : w.frozen? ⟨g, i * 3, none⟩ = false := Pack.free_of hblk _
  have fi1 : w.frozen? ⟨g, i * 3 + 1, none⟩ = false := Pack.free_of hblk _
  have fi2 : w.frozen? ⟨g, i * 3 + 2, none⟩ = false := Pack.free_of hblk _



  have HI : (i : Int) < n := by omega
  have HK : (i : Int) < n := by omega
  have H := Lib.hid h
  have HAT := Lib.hid hat
  have HOWN := Lib.hid hown
  have HJ := Lib.hid (And.intro hjo hko)
  clear h hat hown hjo hko
  go_enter Try.func80, Try.ntmps80
  go_wp2_with fail
  have hmixed : Try.prog.follows .mixedOrders = true := by kernel_rfl
  go_big_region_o
  have hoA := own_job HOWN.out hi jo
  have hoB := own_job hoA (i := i) (by simpa using hk) jo
  have hcA := (chg3 w g (i * 3) (i * 3 + 1) (i * 3 + 2) (.int .u32 jo.o) (.int .u16 jo.s) (.int .i64 jo.g)).trans (chg3 _ g (i * 3) (i * 3 + 1) (i * 3 + 2) (.int .u32 jo.o) (.int .u16 jo.s) (.int .i64 jo.g))
  have hoC := hoB.extNew (drew_ext (Ext.refl _))
  have hcC := hcA.trans (Below.chg (drew_ext (Ext.refl _)))
  clear hoA hoB hcA
  have hsw : (l.set i jo).set i jo = swp l i i := by unfold swp; rw [HJ.out.1]
  rw [hsw] at hoC
  clear hsw i0 i1 i2 fi0 fi1 fi2 q0
  generalize World.drew _ = wb at *
  have hgm := Mp.ne_at H.out.mp HAT.out
  have hgg : g ≠ gm := fun e => Mp.ne_own H.out.mp HOWN.out (by rw [e]; rfl)
  have hgq : gq ≠ g := fun e => HOWN.out.ne HAT.out (by decide) (by rw [e]; rfl)
  have hat2 := hcC.at_ HAT.out (by intro i; exact hgq i)
  have hmp2 := H.out.mp.chg hcC (by intro i; exact hgg i.symm)
  have hll : (ents l).length < maxLen := by rw [ents_len]; simp only [maxLen]; omega
  have memK : ∀ {a : Nat}, a < l.length → keyV (at_ l a) ∈ (ents l).map (·.1) := fun {a} ha => List.mem_map.2 ⟨_, ents_mem.2 ⟨a, _, at_get ha, rfl⟩, rfl⟩
  have wfi : ∀ a : Nat, a < l.length → (Lit.int .i64 (a : Int)).wf = true := fun a ha => by simp [Lit.wf, IntKind.min, IntKind.max, IntKind.bits, IntKind.signed]; omega
  obtain ⟨v1, st1, x1, y1⟩ := hmp2.entry key_keyed Try.underlying51 Try.underlying3 int_zero hll (memK hk)
  obtain ⟨W3, hmp3, hc3, y1⟩ := y1 i (wfi i hi)
  obtain ⟨v2, st2, x2, y2⟩ := hmp3.entry key_keyed Try.underlying51 Try.underlying3 int_zero (by rw [setK_len]; exact hll) (key := keyV (at_ l i)) (by rw [setK_keys]; exact memK hi)
  obtain ⟨W4, hmp4, hc4, y2⟩ := y2 i (wfi i hk)
  rw [← HJ.out.2] at x1 x2 hmp4
  have X1 := Lib.hid x1
  have X2 := Lib.hid x2
  have Y1 := Lib.hid y1
  have Y2 := Lib.hid y2
  have a1 : at_ (swp l i i) i = jo := by rw [swp_at hi hk hi, if_pos rfl, HJ.out.2]
  have a2 : at_ (swp l i i) i = jo := by rw [swp_at hi hk hk, if_pos rfl, HJ.out.2]
  obtain ⟨_, e, i0, i1, i2⟩ := row_cell hoC (at_get (l := swp l i i) (i := i) (by rw [swp_len]; exact hi))
  cases e
  obtain ⟨_, e, k0, k1, k2⟩ := row_cell hoC (at_get (l := swp l i i) (i := i) (by rw [swp_len]; exact hk))
  cases e
  rw [a1] at i0 i1 i2
  rw [a2] at k0 k1 k2
  have q0 : ∀ W, Chg (fun j => j = gm) wb.drew W → W.cell? ⟨gq, 0, none⟩ = some (.slice (some ⟨g, 0, none⟩) l.length c) := fun W hW => hW.cell (a := ⟨gq, 0, none⟩) (blk_cell (i := 0) hat2 (drew_ext (Ext.refl wb.drew)) rfl) hgm
  have q1 : ∀ W, Chg (fun j => j = gm) wb.drew W → W.cell? ⟨gq, 1, none⟩ = some (.map (some gm)) := fun W hW => hW.cell (a := ⟨gq, 1, none⟩) (blk_cell (i := 1) hat2 (drew_ext (Ext.refl wb.drew)) rfl) hgm
  replace i0 : ∀ W, Chg (fun j => j = gm) wb.drew W → W.cell? ⟨g, i * 3, none⟩ = some (.int .u32 jo.o) := fun W hW => hW.cell (a := ⟨g, i * 3, none⟩) i0 hgg
  replace i1 : ∀ W, Chg (fun j => j = gm) wb.drew W → W.cell? ⟨g, i * 3 + 1, none⟩ = some (.int .u16 jo.s) := fun W hW => hW.cell (a := ⟨g, i * 3 + 1, none⟩) i1 hgg
  replace k0 : ∀ W, Chg (fun j => j = gm) wb.drew W → W.cell? ⟨g, i * 3, none⟩ = some (.int .u32 jo.o) := fun W hW => hW.cell (a := ⟨g, i * 3, none⟩) k0 hgg
  replace k1 : ∀ W, Chg (fun j => j = gm) wb.drew W → W.cell? ⟨g, i * 3 + 1, none⟩ = some (.int .u16 jo.s) := fun W hW => hW.cell (a := ⟨g, i * 3 + 1, none⟩) k1 hgg
  have HOC := Lib.hid hoC
  have HCC := Lib.hid hcC
  have HAT2 := Lib.hid hat2
  have HM := Lib.hid (And.intro hmp4 (hc3.trans hc4))
  have HGG := Lib.hid (And.intro hgm hgg)
  clear hmp2 hmp3 hmp4 hc3 hc4 hoC hcC hat2 hgm hgg hgq hll memK wfi i2 k2 a1 a2 x1 x2 y1 y2
  go_wp2_with fail
  refine Lex.wp_region_c [0, 1, 2, 3, 4, 5, 6, 7, 8, 9, 10, 11, 12, 13, 14, 15, 16, 17, 18, 19, 20, 21, 22, 23, 24, 25, 26, 27, 28, 29, 30, 31] [] (fun j => j = gm) [26, 28, 29, 31] (fun j => match j with | 26 => .tuple #[v1, .int .i64 st1] | 29 => .tuple #[v2, .int .i64 st2] | _ => undef) (fun m W => match m with | 0 => W.heap[gm]? = wb.heap[gm]? | 1 => W.heap[gm]? = wb.heap[gm]? | 2 => W.heap[gm]? = W3.heap[gm]? | 3 => W.heap[gm]? = W3.heap[gm]? | _ => W.heap[gm]? = W4.heap[gm]?) (by kernel_rfl) (by kernel_rfl) rfl ?_; simp only [Lex.pick, List.getElem?_cons_succ, List.getElem?_cons_zero, List.map_cons, List.map_nil]
  repeat (first | (refine Lex.lexC_skip (by rfl) (by rfl) ?_; simp only [Act.put, List.setIfInBounds_toArray, List.set_cons_zero, List.set_cons_succ]) | (refine Lex.lexC_still (by rfl) (by rfl) (by rfl) (fun _ => rfl) ?_; apply Exists.intro; refine ⟨fun W hW => ?_, ?_⟩; (have hE := hW.1; clear hW; go_simp; with_reducible rfl); simp only [Act.put, List.setIfInBounds_toArray, List.set_cons_zero, List.set_cons_succ]))
  refine Lex.lexC_chain (by rfl) (by rfl) (fun W hW hI => ?_) ?_
  · have h1 := X1.out W hI
    clear hW
    go_simp
    exact ⟨rfl, Chg.refl _ _, hI⟩
  simp only [Act.put, List.setIfInBounds_toArray, List.set_cons_zero, List.set_cons_succ]
  repeat (first | (refine Lex.lexC_skip (by rfl) (by rfl) ?_; simp only [Act.put, List.setIfInBounds_toArray, List.set_cons_zero, List.set_cons_succ]) | (refine Lex.lexC_still (by rfl) (by rfl) (by rfl) (fun _ => rfl) ?_; apply Exists.intro; refine ⟨fun W hW => ?_, ?_⟩; (have hE := hW.1; clear hW; go_simp; with_reducible rfl); simp only [Act.put, List.setIfInBounds_toArray, List.set_cons_zero, List.set_cons_succ]))
  refine Lex.lexC_chain (by rfl) (by rfl) (fun W hW hI => ?_) ?_
  · obtain ⟨W', h1, h2, h3⟩ := Y1.out W hI
    clear hW
    go_simp
    exact ⟨rfl, h3, h2⟩
  simp only [Act.put, List.setIfInBounds_toArray, List.set_cons_zero, List.set_cons_succ]
  repeat (first | (refine Lex.lexC_skip (by rfl) (by rfl) ?_; simp only [Act.put, List.setIfInBounds_toArray, List.set_cons_zero, List.set_cons_succ]) | (refine Lex.lexC_still (by rfl) (by rfl) (by rfl) (fun _ => rfl) ?_; apply Exists.intro; refine ⟨fun W hW => ?_, ?_⟩; (have hE := hW.1; clear hW; go_simp; with_reducible rfl); simp only [Act.put, List.setIfInBounds_toArray, List.set_cons_zero, List.set_cons_succ]))
  refine Lex.lexC_chain (by rfl) (by rfl) (fun W hW hI => ?_) ?_
  · have h1 := X2.out W hI
    clear hW
    go_simp
    exact ⟨rfl, Chg.refl _ _, hI⟩
  simp only [Act.put, List.setIfInBounds_toArray, List.set_cons_zero, List.set_cons_succ]
  repeat (first | (refine Lex.lexC_skip (by rfl) (by rfl) ?_; simp only [Act.put, List.setIfInBounds_toArray, List.set_cons_zero, List.set_cons_succ]) | (refine Lex.lexC_still (by rfl) (by rfl) (by rfl) (fun _ => rfl) ?_; apply Exists.intro; refine ⟨fun W hW => ?_, ?_⟩; (have hE := hW.1; clear hW; go_simp; with_reducible rfl); simp only [Act.put, List.setIfInBounds_toArray, List.set_cons_zero, List.set_cons_succ]))
  refine Lex.lexC_chain (by rfl) (by rfl) (fun W hW hI => ?_) ?_
  · obtain ⟨W', h1, h2, h3⟩ := Y2.out W hI
    clear hW
    go_simp
    exact ⟨rfl, h3, h2⟩
  simp only [Act.put, List.setIfInBounds_toArray, List.set_cons_zero, List.set_cons_succ]
  repeat (first | (refine Lex.lexC_skip (by rfl) (by rfl) ?_; simp only [Act.put, List.setIfInBounds_toArray, List.set_cons_zero, List.set_cons_succ]) | (refine Lex.lexC_still (by rfl) (by rfl) (by rfl) (fun _ => rfl) ?_; apply Exists.intro; refine ⟨fun W hW => ?_, ?_⟩; (have hE := hW.1; clear hW; go_simp; with_reducible rfl); simp only [Act.put, List.setIfInBounds_toArray, List.set_cons_zero, List.set_cons_succ]))
  refine Lex.lexC_nil (fun W hW hI => ?_)
  have hE := hW.1
  have HI : W.heap[gm]? = W4.heap[gm]? := hI
  clear hW hI
  have HE := Lib.hid hE
  have HH := Lib.hid HI
  clear hE HI q0 q1 i0 i1 k0 k1
  refine Lex.onlyN_intro ?_
  go_wp2_with fail
  go_end0
  have hc5 : Chg (fun j => j = gm) wb W := Chg.trans (Below.chg (drew_ext (Ext.refl wb.drew))) HE.out
  have hmpW : Mp Try.prog 30 3 W gm _ := HM.out.1.kept HH.out
  obtain ⟨p1, p2, p3⟩ := ents_swp H.out.nodup hi hk
  rw [HJ.out.2] at hmpW
  have hperm := swp_perm hi hk
  refine ⟨rfl, ⟨⟨some ⟨g, 0, none⟩, c, ?_, ?_⟩, hmpW.congr (by rw [setK_len, setK_len, ents_len, ents_len, swp_len]) p1 p2 p3, fun j hj => H.out.ok j (hperm.mem_iff.1 hj), H.out.sq, H.out.sm, fun q hq => ?_⟩, ?_⟩
  · rw [swp_len]
    exact hc5.at_ HAT2.out HGG.out.1
  · rw [swp_len]
    exact HOC.out.keep fun q hq => by
      cases hq
      exact hc5.block g (by obtain ⟨_, _, h1, h2, _⟩ := Splice.blk_own HOC.out; cases h1; exact Pack.lt_of_at h2) HGG.out.2
  · exact Nat.lt_of_lt_of_le (H.out.lt q hq) (Nat.le_trans HCC.out.size hc5.size)
  · exact (HCC.out.mono fun q _ hq => by cases hq; exact hS).trans (hc5.mono fun q _ hq => by cases hq; exact H.out.sm)
end Go.Proofs.Ytipmkddcdnbihaa.Urg
