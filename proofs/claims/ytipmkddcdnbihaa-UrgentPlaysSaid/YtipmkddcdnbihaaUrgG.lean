/- A queue's Drop: walked. -/
import Derived.Test.YtipmkddcdnbihaaUrgF
import Derived.Test.YtipmkddcdnbihaaUrgS
namespace Go.Proofs.Ytipmkddcdnbihaa.Urg
open Go.RowKit Base Step MapIs Vec
open UrgP
theorem swap_any (S : Nat → Prop) (gq gm : Nat) (l : List Job) (i k : Nat) (w : World) (h : QueAt w S gq gm l) (hi : i < l.length) (hk : k < l.length) (hlen : l.length ≤ 1099511627776) :
    Calls Try.prog 80 #[.pointer (some ⟨gq, 0, none⟩), .int .i64 i, .int .i64 k] w fun e w' => e = .returned (.tuple #[]) ∧ QueAt w' S gq gm (swp l i k) ∧ Chg S w w' := by
  by_cases hik : i = k
  · subst hik
    exact swap_self S gq gm l i w h hi hi hlen
  · exact swap_calls S gq gm l i k w h hi hk hik hlen
/-- What Drop comes to. -/
def Dropped (S : Nat → Prop) (gq gm : Nat) (l : List Job) (k : Int × Int) (w : World) (e : Ending) (w' : World) : Prop :=
  (posOf l k = none ∧ e = .returned (.bool false) ∧ Ext w w') ∨ (posOf l k ≠ none ∧ e = .returned (.bool true) ∧ Chg S w w' ∧ ∃ l', QueAt w' S gq gm l' ∧ UrgP.Heap l' ∧ l'.Perm (without l k))
set_option maxRecDepth 100000 in
set_option maxHeartbeats 4000000 in
theorem drop_calls (S : Nat → Prop) (gq gm : Nat) (l : List Job) (o s : Int) (w : World) (h : QueAt w S gq gm l) (hH : UrgP.Heap l) (h1 : 0 ≤ o) (h2 : o < 4294967296) (h3 : 0 ≤ s) (h4 : s < 65536) (hlen : l.length ≤ 1000000) :
    Calls Try.prog 21 #[.pointer (some ⟨gq, 0, none⟩), kV (o, s)] w (Dropped S gq gm l (o, s) w) := by
  have e0 := Ext.new w (.cells #[.int .u32 o, .int .u16 s] 30)
  have hb0 := at_new w (.cells #[.int .u32 o, .int .u16 s] 30)
  have HL := Lib.hid h.lt
  have H0 := Lib.hid (h.ext e0)
  have E0 := Lib.hid e0
  have HH := Lib.hid hH
  clear h e0 hH
  go_enter Try.func21, Try.ntmps21
  go_upto_region 1 with fail
  generalize w.alloc (.cells #[.int .u32 o, .int .u16 s] 30) = wa at *
  have B0 := Lib.hid hb0
  obtain ⟨A, c, hat, hown⟩ := H0.out.row
  have k0 : ∀ W, Ext wa.drew W → W.cell? ⟨w.heap.size, 0, none⟩ = some (.int .u32 o) := fun W hW => blk_cell (i := 0) hb0 (drew_ext hW) rfl
  have k1 : ∀ W, Ext wa.drew W → W.cell? ⟨w.heap.size, 1, none⟩ = some (.int .u16 s) := fun W hW => blk_cell (i := 1) hb0 (drew_ext hW) rfl
  have q1 : ∀ W, Ext wa.drew W → W.cell? ⟨gq, 1, none⟩ = some (.map (some gm)) := fun W hW => blk_cell (i := 1) hat (drew_ext hW) rfl
  clear hb0 hat hown
  cases hp : posOf l (o, s) with
  | none =>
    have hll : ∀ W, Ext wa.drew W → (Instr.lookup 51 (.map (some gm)) (.agg #[.int .u32 o, .int .u16 s]) true).run Try.prog W = .ok (.tuple #[.int .i64 0, .bool false]) W := fun W hW => by
      rcases (H0.out.ext (drew_ext hW)).look (k := (o, s)) h1 h2 h3 h4 with ⟨i', hp', hl'⟩ | ⟨_, hl'⟩
      · rw [hp] at hp'
        cases hp'
      · exact hl'
    have HP := Lib.hid hp
    clear hp
    go_wp2_with fail
    refine Lex.wp_region_u [0, 1, 2, 3, 4, 5, 6, 7, 8, 9, 10] [] [] (by kernel_rfl) (by kernel_rfl) (by repeat (first | exact Lex.st_nil | refine Lex.st_cons (by first | exact Lex.nums_st | exact Lex.const_st | exact Lex.such_st | exact Lex.row_st | exact Lex.rowE_st | exact Lex.litR_st | assumption) ?_)) ?_; simp only [Lex.pick, List.getElem?_cons_succ, List.getElem?_cons_zero, List.map_nil]
    repeat (first | (refine Lex.lexU_skip (by rfl) ?_; simp only [Act.put, List.setIfInBounds_toArray, List.set_cons_zero, List.set_cons_succ]) | (refine Lex.lexU_still (by rfl) (by rfl) (by first | exact Base.Ext.refl | exact Lex.Fill.refl) ?_; apply Exists.intro; refine ⟨fun W hW => ?_, ?_⟩; (have hE := Lex.ext_of_cls hW.1; have hE2 := Lex.ext_drew hE; clear hW; go_simp; try with_reducible rfl); simp only [Act.put, List.setIfInBounds_toArray, List.set_cons_zero, List.set_cons_succ]))
    refine Lex.lexU_nil (fun W hW => ?_)
    have hE := Lib.hid (Lex.ext_drew hW.1)
    clear hW k0 k1 q1 hll
    refine Lex.onlyN_intro ?_
    go_wp2_with fail
    go_ret
    exact .inl ⟨HP.out, rfl, E0.out.trans hE.out⟩
  | some i =>
    have hll : ∀ W, Ext wa.drew W → (Instr.lookup 51 (.map (some gm)) (.agg #[.int .u32 o, .int .u16 s]) true).run Try.prog W = .ok (.tuple #[.int .i64 i, .bool true]) W := fun W hW => by
      rcases (H0.out.ext (drew_ext hW)).look (k := (o, s)) h1 h2 h3 h4 with ⟨i', hp', hl'⟩ | ⟨hp', _⟩
      · rw [hp] at hp'
        cases hp'
        exact hl' true
      · rw [hp] at hp'
        cases hp'
    have HP := Lib.hid hp
    obtain ⟨hi, hk⟩ := posOf_some hp
    have HK := Lib.hid hk
    clear hp hk
    obtain ⟨n, hn⟩ : ∃ n, n + 1 = l.length := ⟨l.length - 1, by omega⟩
    have HN := Lib.hid hn
    go_wp2_with fail
    refine Lex.wp_region_u [0, 1, 2, 3, 4, 5, 6, 7, 8, 9, 10] [] [] (by kernel_rfl) (by kernel_rfl) (by repeat (first | exact Lex.st_nil | refine Lex.st_cons (by first | exact Lex.nums_st | exact Lex.const_st | exact Lex.such_st | exact Lex.row_st | exact Lex.rowE_st | exact Lex.litR_st | assumption) ?_)) ?_; simp only [Lex.pick, List.getElem?_cons_succ, List.getElem?_cons_zero, List.map_nil]
    repeat (first | (refine Lex.lexU_skip (by rfl) ?_; simp only [Act.put, List.setIfInBounds_toArray, List.set_cons_zero, List.set_cons_succ]) | (refine Lex.lexU_still (by rfl) (by rfl) (by first | exact Base.Ext.refl | exact Lex.Fill.refl) ?_; apply Exists.intro; refine ⟨fun W hW => ?_, ?_⟩; (have hE := Lex.ext_of_cls hW.1; have hE2 := Lex.ext_drew hE; clear hW; go_simp; try with_reducible rfl); simp only [Act.put, List.setIfInBounds_toArray, List.set_cons_zero, List.set_cons_succ]))
    refine Lex.lexU_nil (fun W hW => ?_)
    have hE := Lib.hid (Lex.ext_drew hW.1)
    clear hW k0 k1 q1 hll
    refine Lex.onlyN_intro ?_
    have H1 := Lib.hid (H0.out.ext hE.out)
    have E1 := Lib.hid (E0.out.trans hE.out)
    have B1 := Lib.hid (hE.out.at_ B0.out)
    clear hE H0 E0 B0
    generalize W = wb at *
    obtain ⟨A, c, hat, hown⟩ := H1.out.row
    rw [← hn] at hat
    have c0 : wb.cell? ⟨gq, 0, none⟩ = some (.slice A (n + 1) c) := blk_cell (i := 0) hat (Ext.refl _) rfl
    have hwn : IntKind.i64.wrap ((n : Int) + 1 - 1) = (n : Int) := by rw [show (n : Int) + 1 - 1 = n by omega]; exact IntWalk.i64_in _ (by omega)
    have hwn2 : IntKind.i64.wrap (n : Int) = (n : Int) := IntWalk.i64_in _ (by omega)
    clear hat hown hn
    go_wp2_with fail
    clear c0
    refine (swap_any S gq gm l i n wb H1.out hi (by have := HN.out; omega) (by omega)).mono ?_
    rintro e w2 ⟨rfl, hq2, hc2⟩
    have HQ2 := Lib.hid hq2
    have HC2 := Lib.hid (ext_chg E1.out hc2)
    have B2 := Lib.hid (hc2.at_ B1.out (fun k => by have := HL.out _ k; omega))
    have HL2 : Hid ((swp l i n).length = n + 1) := Lib.hid (by rw [swp_len, HN.out])
    obtain ⟨A, c, hat, hown⟩ := HQ2.out.row
    rw [HL2.out] at hat hown
    have c0 : w2.cell? ⟨gq, 0, none⟩ = some (.slice A (n + 1) c) := blk_cell (i := 0) hat (Ext.refl _) rfl
    have f0 := Pack.free_of hat 0
    have hcap := hown.cap.1
    have hgm := Mp.ne_at HQ2.out.mp hat
    have hgo := Mp.ne_own HQ2.out.mp hown
    have hgq : gq ≠ w.heap.size := fun e => by have := HL.out _ HQ2.out.sq; omega
    have hat3 : (w2.setCell ⟨gq, 0, none⟩ (.slice A n c)).heap[gq]? = some (.cells #[.slice A n c, .map (some gm)] 53 (0, 0)) := set_blk (i := 0) hat _
    have ho3 : Own (w2.setCell ⟨gq, 0, none⟩ (.slice A n c)) S 32 3 (.slice A n c) n (((swp l i n).take n).flatMap jobV) := by
      have h5 := own_put (g := gq) (i := 0) (u := .slice A n c) (own_takeG hown (Nat.le_succ n)) hat (by decide)
      have h6 : ((swp l i n).flatMap jobV).take (n * 3) = ((swp l i n).take n).flatMap jobV := by
        conv => lhs; rw [← List.take_append_drop n (swp l i n), List.flatMap_append]
        have h7 : (((swp l i n).take n).flatMap jobV).length = n * 3 := by rw [flat_len, List.length_take, HL2.out]; omega
        rw [List.take_append_of_le_length (by omega), List.take_of_length_le (by omega)]
      rwa [h6] at h5
    have hc3 : Chg (fun q => q = gq) w2 (w2.setCell ⟨gq, 0, none⟩ (.slice A n c)) := Chg.setCell (S := fun q => q = gq) (Chg.refl _ _) (p := ⟨gq, 0, none⟩) rfl _
    have HAT3 := Lib.hid hat3
    have HO3 := Lib.hid ho3
    have HM3 := Lib.hid (HQ2.out.mp.chg hc3 (Ne.symm hgm))
    have B3 := Lib.hid (hc3.at_ B2.out (Ne.symm hgq))
    have HC3 := Lib.hid (HC2.out.trans (hc3.mono fun q _ hq => by have hq : q = gq := hq; subst hq; exact HQ2.out.sq))
    have HG := Lib.hid (And.intro hgm hgo)
    have hs3 : (w2.setCell ⟨gq, 0, none⟩ (.slice A n c)).heap.size = w2.heap.size := by simp
    clear hq2 hc2 hat hown hgm hgo hgq hat3 ho3 hc3
    go_upto_region 9 with fail
    clear c0 f0
    generalize w2.setCell ⟨gq, 0, none⟩ (.slice A n c) = w3 at *
    have q1 : ∀ W, Ext w3.drew W → W.cell? ⟨gq, 1, none⟩ = some (.map (some gm)) := fun W hW => blk_cell (i := 1) HAT3.out (drew_ext hW) rfl
    have k0 : ∀ W, Ext w3.drew W → W.cell? ⟨w.heap.size, 0, none⟩ = some (.int .u32 o) := fun W hW => blk_cell (i := 0) B3.out (drew_ext hW) rfl
    have k1 : ∀ W, Ext w3.drew W → W.cell? ⟨w.heap.size, 1, none⟩ = some (.int .u16 s) := fun W hW => blk_cell (i := 1) B3.out (drew_ext hW) rfl
    refine Lex.wp_region_u [0, 1, 2, 3, 4] [5] [] (by kernel_rfl) (by kernel_rfl) (by repeat (first | exact Lex.st_nil | refine Lex.st_cons (by first | exact Lex.nums_st | exact Lex.const_st | exact Lex.such_st | exact Lex.row_st | exact Lex.rowE_st | exact Lex.litR_st | assumption) ?_)) ?_; simp only [Lex.pick, List.getElem?_cons_succ, List.getElem?_cons_zero, List.map_cons, List.map_nil]
    repeat (first | (refine Lex.lexU_skip (by rfl) ?_; simp only [Act.put, List.setIfInBounds_toArray, List.set_cons_zero, List.set_cons_succ]) | (refine Lex.lexU_still (by rfl) (by rfl) (by first | exact Base.Ext.refl | exact Lex.Fill.refl) ?_; apply Exists.intro; refine ⟨fun W hW => ?_, ?_⟩; (have hE := Lex.ext_of_cls hW.1; have hE2 := Lex.ext_drew hE; clear hW; go_simp; try with_reducible rfl); simp only [Act.put, List.setIfInBounds_toArray, List.set_cons_zero, List.set_cons_succ]))
    refine Lex.lexU_nil (fun W hW => ?_)
    have hE4 := Lib.hid (Lex.ext_drew hW.1)
    clear hW q1 k0 k1
    have hnl : n < l.length := by have := HN.out; omega
    have hlast : at_ (swp l i n) n = at_ l i := by rw [swp_at hi hnl hnl, if_pos rfl]
    have hkey : keyV (at_ l i) = kV (o, s) := by rw [← HK.out]
    have hmem : kV (o, s) ∈ (ents (swp l i n)).map (·.1) := by
      rw [ents_keys, ← hkey, ← hlast]
      exact List.mem_map.2 ⟨_, at_mem (by rw [HL2.out]; omega), rfl⟩
    refine wpList_del_mp (key := kV (o, s)) (HM3.out.ext hE4.out) key_keyed Try.underlying51 rfl _ _ rfl rfl rfl hmem ?_
    intro w5 hmp5 hc5
    obtain ⟨p1, p2, p3, p4⟩ := ents_take (l := swp l i n) (n := n) HL2.out.symm HQ2.out.nodup
    rw [hlast, hkey] at p1 p2 p4
    have hmp6 := hmp5.congr p4 p1 p2 p3
    have hln : ((swp l i n).take n).length = n := by rw [List.length_take, HL2.out]; omega
    have hq5 : QueAt w5 S gq gm ((swp l i n).take n) := by
      refine ⟨⟨A, c, ?_, ?_⟩, hmp6, fun x hx => HQ2.out.ok x (List.mem_of_mem_take hx), HQ2.out.sq, HQ2.out.sm, fun q hq => ?_⟩
      · rw [hln]
        exact hc5.at_ (hE4.out.at_ HAT3.out) HG.out.1
      · rw [hln]
        refine (HO3.out.extNew hE4.out).keep fun q hq => hc5.block q ?_ (fun k => HG.out.2 ?_)
        · exact Nat.lt_of_lt_of_le (HO3.out.row.lt q hq).2 hE4.out.size
        · have k : q = gm := k
          rw [← k]
          rcases A with _ | ad <;> simp [Value.ownBlock] at hq ⊢
          exact hq
      · have := HQ2.out.lt q hq
        exact Nat.lt_of_lt_of_le this (by rw [← hs3]; exact Nat.le_trans hE4.out.size hc5.size)
    have hch5 : Chg S w w5 := (chg_ext HC3.out hE4.out).trans (hc5.mono fun q _ hq => by have hq : q = gm := hq; subst hq; exact HQ2.out.sm)
    have HQ5 := Lib.hid hq5
    have HC5 := Lib.hid hch5
    have hperm := drop_perm HN.out hi (nodup_key H1.out.nodup)
    rw [HK.out] at hperm
    have HPM := Lib.hid hperm
    have HLN := Lib.hid hln
    clear hln hmp5 hc5 hmp6 hq5 hch5 p1 p2 p3 p4 hmem hkey hlast hperm hs3 hcap
    refine Lex.onlyN_intro ?_
    by_cases hin : i < n
    · have hinI : (i : Int) < n := by omega
      obtain ⟨g, c', q0, q1, p0, p1, p2⟩ := HQ5.out.cells (i := i) (by rw [HLN.out]; exact hin)
      rw [HLN.out] at q0
      obtain ⟨x, hx⟩ : ∃ x, x = at_ ((swp l i n).take n) i := ⟨_, rfl⟩
      rw [← hx] at p0 p1
      have HX := Lib.hid hx
      clear hx p2 q1
      have e6 := Ext.new w5 (.cells #[.int .u32 0, .int .u16 0] 30)
      go_wp2_with (refine RowSt.wpList_put 30 _ _ rfl rfl rfl w5.heap.size #[.int .u32 x.o, .int .u16 x.s] rfl rfl 30 _ (at_new _ _) (by kernel_rfl) rfl (by simp [Value.oneCell']) ?_; intro w6 hb6 hc6)
      have E6 : Ext w5 w6 := e6.chg hc6 (fun q k => by have k : q = w5.heap.size := k; omega)
      have H6 := Lib.hid (HQ5.out.ext E6)
      have B6 := Lib.hid hb6
      have E6' := Lib.hid E6
      have hl6 : w5.heap.size < w6.heap.size := Pack.lt_of_at hb6
      clear e6 hc6 hb6 E6 q0 p0 p1
      refine (up_calls S gq gm ((swp l i n).take n) i w6 H6.out (by rw [HLN.out]; exact hin) (drop_G HN.out hin HH.out) (by rw [HLN.out]; have := HN.out; omega)).mono ?_
      rintro e w7 ⟨rfl, l', i', hway, hdn⟩
      have HWay := Lib.hid hway
      have HDn := Lib.hid hdn
      have hb7 := hway.chg.at_ B6.out (fun k => by have := HQ5.out.lt _ k; omega)
      obtain ⟨A', c', hat', _⟩ := HWay.out.q.row
      have hj' : at_ l' i' = x := by rw [HWay.out.job, HX.out]
      have hm' : (keyV x, (i' : Int)) ∈ ents l' := ents_mem.2 ⟨i', x, by rw [at_get HWay.out.lt, hj'], rfl⟩
      have q1 : ∀ W, Ext w7.drew W → W.cell? ⟨gq, 1, none⟩ = some (.map (some gm)) := fun W hW => blk_cell (i := 1) hat' (drew_ext hW) rfl
      have k0 : ∀ W, Ext w7.drew W → W.cell? ⟨w5.heap.size, 0, none⟩ = some (.int .u32 x.o) := fun W hW => blk_cell (i := 0) hb7 (drew_ext hW) rfl
      have k1 : ∀ W, Ext w7.drew W → W.cell? ⟨w5.heap.size, 1, none⟩ = some (.int .u16 x.s) := fun W hW => blk_cell (i := 1) hb7 (drew_ext hW) rfl
      have hll : ∀ W, Ext w7.drew W → (Instr.lookup 51 (.map (some gm)) (.agg #[.int .u32 x.o, .int .u16 x.s]) false).run Try.prog W = .ok (.int .i64 i') W := fun W hW => ((HWay.out.q.mp.ext (drew_ext hW)).hit key_keyed Try.underlying51 Try.underlying3 (int_zero W) hm').2
      clear hway hdn hat' hb7 hj' hm'
      go_wp2_with fail
      refine Lex.wp_region_u [0, 1, 2, 3, 4, 5, 6] [7] [] (by kernel_rfl) (by kernel_rfl) (by repeat (first | exact Lex.st_nil | refine Lex.st_cons (by first | exact Lex.nums_st | exact Lex.const_st | exact Lex.such_st | exact Lex.row_st | exact Lex.rowE_st | exact Lex.litR_st | assumption) ?_)) ?_; simp only [Lex.pick, List.getElem?_cons_succ, List.getElem?_cons_zero, List.map_cons, List.map_nil]
      repeat (first | (refine Lex.lexU_skip (by rfl) ?_; simp only [Act.put, List.setIfInBounds_toArray, List.set_cons_zero, List.set_cons_succ]) | (refine Lex.lexU_still (by rfl) (by rfl) (by first | exact Base.Ext.refl | exact Lex.Fill.refl) ?_; apply Exists.intro; refine ⟨fun W hW => ?_, ?_⟩; (have hE := Lex.ext_of_cls hW.1; have hE2 := Lex.ext_drew hE; clear hW; go_simp; try with_reducible rfl); simp only [Act.put, List.setIfInBounds_toArray, List.set_cons_zero, List.set_cons_succ]))
      refine Lex.lexU_nil (fun W hW => ?_)
      have hE8 := Lib.hid (Lex.ext_drew hW.1)
      clear hW q1 k0 k1 hll
      go_wp2_with fail
      refine (down_calls S gq gm l' i' _ (HWay.out.q.ext hE8.out) HWay.out.lt HDn.out (by rw [HWay.out.perm.length_eq, HLN.out]; have := HN.out; omega)).mono ?_
      rintro e w9 ⟨rfl, l2, hq9, hp9, hh9, hc9⟩
      have HQ9 := Lib.hid hq9
      have HP9 := Lib.hid hp9
      have HH9 := Lib.hid hh9
      have HC9 := Lib.hid hc9
      clear hq9 hp9 hh9 hc9
      go_wp2_with fail
      try simp only [Lex.onlyN]
      go_wp2_with fail
      go_ret
      exact .inr ⟨by rw [HP.out]; simp, rfl, (((chg_ext HC5.out E6'.out).trans HWay.out.chg).trans (Below.chg hE8.out)).trans HC9.out, l2, HQ9.out, HH9.out, (HP9.out.trans HWay.out.perm).trans HPM.out⟩
    · obtain rfl : i = n := by have := HN.out; omega
      have hinI : ¬ (i : Int) < i := by omega
      go_wp2_with fail
      go_ret
      exact .inr ⟨by rw [HP.out]; simp, rfl, HC5.out, _, HQ5.out, drop_heap HN.out HH.out, HPM.out⟩
end Go.Proofs.Ytipmkddcdnbihaa.Urg
