/- A vault's Begin and Put, walked. -/
import Derived.Test.YtipmkddcdnbihaaVaultH
namespace Go.Proofs.Ytipmkddcdnbihaa.Vault
open Go.RowKit Base Step MapIs Vec
open VaultP (Sh shOf nameB cellOf readV Whole)
set_option maxRecDepth 100000 in
set_option maxHeartbeats 2000000 in
theorem begin_twice (S : Nat → Prop) (gv gm gd : Nat) (l : List (Sh × Nat)) (size : Int) (cells : List (List Int)) (loose : List (Int × List Int)) (syncs : Int) (s : Sh) (A : Option Addr) (n c : Nat) (ys : List Int) (w : World) (h : VaultAt w gv gm gd l) (hd : Disk.Disk w S gd size cells loose syncs)
    (hs : s.Ok) (hr : Rd w .u8 A n ys) (hn : n ≤ 60000) (hm : s ∈ l.map (·.1)) :
    Calls Try.prog 62 #[.pointer (some ⟨gv, 0, none⟩), shV s, .slice A n c] w fun e w' => e = .returned (.int .i64 7) ∧ Ext w w' := by
  have e0 := Lib.hid (Ext.new w (.cells #[.int .u32 s.o, .int .u16 s.st, .int .u16 s.sl, .int .u32 s.g] 111))
  have hb1 := at_new w (.cells #[.int .u32 s.o, .int .u16 s.st, .int .u16 s.sl, .int .u32 s.g] 111)
  have HV := Lib.hid h
  have HD := Lib.hid hd
  have HR := Lib.hid hr
  have HS := Lib.hid hs
  have HM := Lib.hid hm
  clear h hd hr hs hm
  go_enter Try.func62, Try.ntmps62
  go_upto_region 1 with fail
  generalize w.alloc (.cells #[.int .u32 s.o, .int .u16 s.st, .int .u16 s.sl, .int .u32 s.g] 111) = wb at *
  have hv0 : wb.cell? ⟨gv, 0, none⟩ = some (.pointer (some ⟨gd, 0, none⟩)) := blk_cell (i := 0) (e0.out.at_ HV.out.at_) (Ext.refl _) rfl
  have b0 : wb.cell? ⟨w.heap.size, 0, none⟩ = some (.int .u32 s.o) := blk_cell (i := 0) hb1 (Ext.refl _) rfl
  have b1 : wb.cell? ⟨w.heap.size, 1, none⟩ = some (.int .u16 s.st) := blk_cell (i := 1) hb1 (Ext.refl _) rfl
  have b2 : wb.cell? ⟨w.heap.size, 2, none⟩ = some (.int .u16 s.sl) := blk_cell (i := 2) hb1 (Ext.refl _) rfl
  have b3 : wb.cell? ⟨w.heap.size, 3, none⟩ = some (.int .u32 s.g) := blk_cell (i := 3) hb1 (Ext.refl _) rfl
  go_wp2_with fail
  refine (vframe_calls s A n c ys _ HS.out (HR.out.ext e0.out) hn).mono ?_
  rintro e w1 ⟨A1, c1, rfl, ho1, he1⟩
  have E1 := Lib.hid (e0.out.trans he1)
  have hB1 := he1.at_ hb1
  have hv1 : w1.cell? ⟨gv, 0, none⟩ = some (.pointer (some ⟨gd, 0, none⟩)) := blk_cell (i := 0) (E1.out.at_ HV.out.at_) (Ext.refl _) rfl
  clear ho1 he1 hb1 hv0 b0 b1 b2 b3
  go_wp2_with fail
  refine (Disk.len_calls S gd size cells loose syncs w1 (HD.out.ext E1.out)).mono ?_
  rintro e w2 ⟨rfl, he2⟩
  have E2 := Lib.hid (E1.out.trans he2)
  have hB2 := he2.at_ hB1
  clear he2 hB1 hv1
  have c0 : w2.cell? ⟨w.heap.size, 0, none⟩ = some (.int .u32 s.o) := blk_cell (i := 0) hB2 (Ext.refl _) rfl
  have c1 : w2.cell? ⟨w.heap.size, 1, none⟩ = some (.int .u16 s.st) := blk_cell (i := 1) hB2 (Ext.refl _) rfl
  have c2 : w2.cell? ⟨w.heap.size, 2, none⟩ = some (.int .u16 s.sl) := blk_cell (i := 2) hB2 (Ext.refl _) rfl
  have c3 : w2.cell? ⟨w.heap.size, 3, none⟩ = some (.int .u32 s.g) := blk_cell (i := 3) hB2 (Ext.refl _) rfl
  go_wp2_with fail
  refine (has_calls gv gm gd l s w2 (HV.out.ext E2.out) HS.out).mono ?_
  rintro e w3 ⟨rfl, he3⟩
  have E3 := Lib.hid (E2.out.trans he3)
  rw [show decide (s ∈ l.map (·.1)) = true from decide_eq_true HM.out]
  clear he3
  go_wp2_with fail
  go_ret
  exact ⟨rfl, E3.out⟩
theorem cell_wf {s : Sh} {ys : List Int} (h : Le.U8s ys) : ∀ x ∈ cellOf s ys, (Lit.int .u8 x).wf = true := fun x hx => by
  have := Frm.frame_u8 1 _ (VaultP.cell_u8 (s := s) h) x hx
  exact u8_wf this.1 this.2
theorem vm_ne {w : World} {gv gm gd : Nat} {l : List (Sh × Nat)} (h : VaultAt w gv gm gd l) : gv ≠ gm := fun k => by
  subst k
  obtain ⟨D, ⟨es, clock, h1, _⟩, _⟩ := h.mp.own
  rw [h.at_] at h1
  cases h1
set_option maxRecDepth 100000 in
set_option maxHeartbeats 2000000 in
theorem begin_new (S : Nat → Prop) (gv gm gd : Nat) (l : List (Sh × Nat)) (size : Int) (cells : List (List Int)) (loose : List (Int × List Int)) (syncs : Int) (s : Sh) (A : Option Addr) (n c : Nat) (ys : List Int) (w : World) (h : VaultAt w gv gm gd l) (hd : Disk.Disk w S gd size cells loose syncs)
    (hs : s.Ok) (hr : Rd w .u8 A n ys) (hn : n ≤ 60000) (hm : s ∉ l.map (·.1)) (hsz : (24 + n : Nat) ≤ size) (m : Nat) (hmc : m < cells.length) (hu : ∀ j, j < m → j ∈ l.map (·.2)) (hf : m ∉ l.map (·.2)) (hl : ∀ p ∈ l, p.2 < cells.length) (hll : l.length ≤ 1000000) (hx : loose.length ≤ 1099511627776) (hgv : ¬ S gv) (hgm : ¬ S gm) :
    Calls Try.prog 62 #[.pointer (some ⟨gv, 0, none⟩), shV s, .slice A n c] w fun e w' => e = .returned (.int .i64 0) ∧ VaultAt w' gv gm gd (l ++ [(s, m)]) ∧ Disk.Disk w' (Plus S w w') gd size cells (loose ++ [((m : Int), cellOf s ys)]) syncs ∧ Chg (fun i => S i ∨ i = gm) w w' := by
  have e0 := Lib.hid (Ext.new w (.cells #[.int .u32 s.o, .int .u16 s.st, .int .u16 s.sl, .int .u32 s.g] 111))
  have hb1 := at_new w (.cells #[.int .u32 s.o, .int .u16 s.st, .int .u16 s.sl, .int .u32 s.g] 111)
  have HV := Lib.hid h
  have HD := Lib.hid hd
  have HR := Lib.hid hr
  have HS := Lib.hid hs
  have HM := Lib.hid hm
  have HU := Lib.hid hu
  have HF := Lib.hid hf
  have HL := Lib.hid hl
  have HGV := Lib.hid hgv
  have HGM := Lib.hid hgm
  have hvl := h.lt
  clear h hd hr hs hm hu hf hl hgv hgm
  go_enter Try.func62, Try.ntmps62
  go_upto_region 1 with fail
  generalize w.alloc (.cells #[.int .u32 s.o, .int .u16 s.st, .int .u16 s.sl, .int .u32 s.g] 111) = wb at *
  have hv0 : wb.cell? ⟨gv, 0, none⟩ = some (.pointer (some ⟨gd, 0, none⟩)) := blk_cell (i := 0) (e0.out.at_ HV.out.at_) (Ext.refl _) rfl
  have b0 : wb.cell? ⟨w.heap.size, 0, none⟩ = some (.int .u32 s.o) := blk_cell (i := 0) hb1 (Ext.refl _) rfl
  have b1 : wb.cell? ⟨w.heap.size, 1, none⟩ = some (.int .u16 s.st) := blk_cell (i := 1) hb1 (Ext.refl _) rfl
  have b2 : wb.cell? ⟨w.heap.size, 2, none⟩ = some (.int .u16 s.sl) := blk_cell (i := 2) hb1 (Ext.refl _) rfl
  have b3 : wb.cell? ⟨w.heap.size, 3, none⟩ = some (.int .u32 s.g) := blk_cell (i := 3) hb1 (Ext.refl _) rfl
  go_wp2_with fail
  refine (vframe_calls s A n c ys _ HS.out (HR.out.ext e0.out) hn).mono ?_
  rintro e w1 ⟨A1, c1, rfl, ho1, he1⟩
  have E1 := Lib.hid (e0.out.trans he1)
  have hB1 := he1.at_ hb1
  have hv1 : w1.cell? ⟨gv, 0, none⟩ = some (.pointer (some ⟨gd, 0, none⟩)) := blk_cell (i := 0) (E1.out.at_ HV.out.at_) (Ext.refl _) rfl
  have HO1 := Lib.hid (ho1.rd (cell_wf (fun x hx => wf_u8 (HR.out.wf x hx))))
  clear ho1 he1 hb1 hv0 b0 b1 b2 b3
  go_wp2_with fail
  refine (Disk.len_calls S gd size cells loose syncs w1 (HD.out.ext E1.out)).mono ?_
  rintro e w2 ⟨rfl, he2⟩
  have E2 := Lib.hid (E1.out.trans he2)
  have hB2 := he2.at_ hB1
  have he2' := Lib.hid he2
  clear he2 hB1 hv1
  have c0 : w2.cell? ⟨w.heap.size, 0, none⟩ = some (.int .u32 s.o) := blk_cell (i := 0) hB2 (Ext.refl _) rfl
  have c1 : w2.cell? ⟨w.heap.size, 1, none⟩ = some (.int .u16 s.st) := blk_cell (i := 1) hB2 (Ext.refl _) rfl
  have c2 : w2.cell? ⟨w.heap.size, 2, none⟩ = some (.int .u16 s.sl) := blk_cell (i := 2) hB2 (Ext.refl _) rfl
  have c3 : w2.cell? ⟨w.heap.size, 3, none⟩ = some (.int .u32 s.g) := blk_cell (i := 3) hB2 (Ext.refl _) rfl
  go_wp2_with fail
  refine (has_calls gv gm gd l s w2 (HV.out.ext E2.out) HS.out).mono ?_
  rintro e w3 ⟨rfl, he3⟩
  have E3 := Lib.hid (E2.out.trans he3)
  have hB3 := he3.at_ hB2
  have HO3 := Lib.hid (HO1.out.ext (he2'.out.trans he3))
  rw [show decide (s ∈ l.map (·.1)) = false from decide_eq_false HM.out]
  clear he3 hB2 c0 c1 c2 c3
  have hz : (24 + (n : Int) == 0) = false := by simp; omega
  have hz2 : decide (size < 24 + (n : Int)) = false := by simp; omega
  have hz3 : ¬ ((m : Int) < 0) := by omega
  go_wp2_with fail
  refine (free_calls S gv gm gd l size cells loose syncs m w3 (HV.out.ext E3.out) (HD.out.ext E3.out) HL.out hmc HU.out HF.out).mono ?_
  rintro e w4 ⟨rfl, he4⟩
  have E4 := Lib.hid (E3.out.trans he4)
  have hB4 := he4.at_ hB3
  have HO4 := Lib.hid (HO3.out.ext he4)
  have hv4 : w4.cell? ⟨gv, 0, none⟩ = some (.pointer (some ⟨gd, 0, none⟩)) := blk_cell (i := 0) (E4.out.at_ HV.out.at_) (Ext.refl _) rfl
  clear he4 hB3
  go_wp2_with fail
  refine (Disk.write_calls S gd size cells loose syncs w4 (HD.out.ext E4.out) m hmc A1 (24 + n) c1 _ HO4.out hsz hx).mono ?_
  rintro e w5 ⟨rfl, hd5, hc5⟩
  have hlt := HD.out.lt
  have hB5 := hc5.at_ hB4 (fun k => by have := hlt _ k; omega)
  have HV5 := Lib.hid ((HV.out.ext E4.out).chg hc5 HGV.out HGM.out)
  have HD5 := Lib.hid hd5
  have HC5 := Lib.hid ((Chg.refl S w).trans (Below.chg E4.out) |>.trans hc5)
  have hs4 : w.heap.size ≤ w4.heap.size := E4.out.size
  have hs5 : w4.heap.size ≤ w5.heap.size := hc5.size
  clear hd5 hc5 hB4 hv4 hlt
  have hv : ∀ W, Ext w5.drew W → W.cell? ⟨gv, 1, none⟩ = some (.map (some gm)) := fun W hW => blk_cell HV5.out.at_ (drew_ext hW) rfl
  have c0 : ∀ W, Ext w5.drew W → W.cell? ⟨w.heap.size, 0, none⟩ = some (.int .u32 s.o) := fun W hW => blk_cell hB5 (drew_ext hW) rfl
  have c1 : ∀ W, Ext w5.drew W → W.cell? ⟨w.heap.size, 1, none⟩ = some (.int .u16 s.st) := fun W hW => blk_cell hB5 (drew_ext hW) rfl
  have c2 : ∀ W, Ext w5.drew W → W.cell? ⟨w.heap.size, 2, none⟩ = some (.int .u16 s.sl) := fun W hW => blk_cell hB5 (drew_ext hW) rfl
  have c3 : ∀ W, Ext w5.drew W → W.cell? ⟨w.heap.size, 3, none⟩ = some (.int .u32 s.g) := fun W hW => blk_cell hB5 (drew_ext hW) rfl
  go_wp2_with fail
  refine Lex.wp_region_u [0, 1, 2, 3, 4, 5] [6] [] (by kernel_rfl) (by kernel_rfl) (by repeat (first | exact Lex.st_nil | refine Lex.st_cons (by first | exact Lex.nums_st | exact Lex.const_st | exact Lex.such_st | exact Lex.row_st | exact Lex.rowE_st | exact Lex.litR_st | assumption) ?_)) ?_; simp only [Lex.pick, List.getElem?_cons_succ, List.getElem?_cons_zero, List.map_cons, List.map_nil]
  repeat (first | (refine Lex.lexU_skip (by rfl) ?_; simp only [Act.put, List.setIfInBounds_toArray, List.set_cons_zero, List.set_cons_succ]) | (refine Lex.lexU_still (by rfl) (by rfl) (by first | exact Base.Ext.refl | exact Lex.Fill.refl) ?_; apply Exists.intro; refine ⟨fun W hW => ?_, ?_⟩; (have hE := Lex.ext_of_cls hW.1; have hE2 := Lex.ext_drew hE; clear hW; go_simp; try with_reducible rfl); simp only [Act.put, List.setIfInBounds_toArray, List.set_cons_zero, List.set_cons_succ]))
  refine Lex.lexU_nil (fun W hW => ?_)
  have hE := Lib.hid (Lex.ext_drew hW.1)
  clear hW hv c0 c1 c2 c3
  obtain ⟨kl, hkl⟩ := key_of HS.out
  have hmem : shV s ∉ (ents l).map (·.1) := fun k => HM.out (ents_mem.1 k)
  have hm24 := HD.out.len_le.2.2.2.1
  refine wpList_put_mp (key := shV s) (c := (m : Int)) (HV5.out.ext hE.out).mp shard_keyed Try.underlying117 Try.underlying3 (by rw [ents_len]; simp only [maxLen]; omega) rfl _ _ _ rfl rfl rfl rfl hkl hmem (by simp [Lit.wf, IntKind.min, IntKind.max, IntKind.bits, IntKind.signed]; omega) ?_
  intro w7 hmp hc7
  have HMP := Lib.hid hmp
  have HC7 := Lib.hid hc7
  clear hmp hc7
  refine Lex.onlyN_intro ?_
  go_wp2_with fail
  go_ret
  have hs7 : W.heap.size ≤ w7.heap.size := HC7.out.size
  have hsW : w5.heap.size ≤ W.heap.size := hE.out.size
  refine ⟨rfl, ⟨HC7.out.at_ ((HV5.out.ext hE.out).at_) (by have := HV5.out.mp.lt; intro k; exact vm_ne (HV5.out) k), by simpa [ents] using HMP.out, fun p hp => ?_⟩, ?_, ?_⟩
  · rcases List.mem_append.1 hp with hp | hp
    · exact HV.out.ok p hp
    · simp at hp
      subst hp
      exact HS.out
  · refine ((HD5.out.ext hE.out).chg HC7.out (fun i hi k => ?_)).mono (Plus.mono hs4 (Nat.le_trans hsW hs7)) (Plus.lt (fun i hi => HD.out.lt i hi) (by omega))
    have k : i = gm := k
    subst k
    exact hi.elim HGM.out (fun k => by omega)
  · have h1 : Chg (fun i => S i ∨ i = gm) w w5 := HC5.out.mono fun _ _ k => .inl k
    exact (h1.trans (Below.chg hE.out)).trans (HC7.out.mono fun _ _ k => .inr k)
set_option maxRecDepth 100000 in
set_option maxHeartbeats 2000000 in
theorem put_twice (S : Nat → Prop) (gv gm gd : Nat) (l : List (Sh × Nat)) (size : Int) (cells : List (List Int)) (loose : List (Int × List Int)) (syncs : Int) (s : Sh) (A : Option Addr) (n c : Nat) (ys : List Int) (w : World) (h : VaultAt w gv gm gd l) (hd : Disk.Disk w S gd size cells loose syncs)
    (hs : s.Ok) (hr : Rd w .u8 A n ys) (hn : n ≤ 60000) (hm : s ∈ l.map (·.1)) :
    Calls Try.prog 63 #[.pointer (some ⟨gv, 0, none⟩), shV s, .slice A n c] w fun e w' => e = .returned (.int .i64 7) ∧ Ext w w' := by
  have e0 := Lib.hid (Ext.new w (.cells #[.int .u32 s.o, .int .u16 s.st, .int .u16 s.sl, .int .u32 s.g] 111))
  have hb1 := at_new w (.cells #[.int .u32 s.o, .int .u16 s.st, .int .u16 s.sl, .int .u32 s.g] 111)
  have HV := Lib.hid h
  have HD := Lib.hid hd
  have HR := Lib.hid hr
  have HS := Lib.hid hs
  have HM := Lib.hid hm
  clear h hd hr hs hm
  go_enter Try.func63, Try.ntmps63
  go_upto_region 1 with fail
  generalize w.alloc (.cells #[.int .u32 s.o, .int .u16 s.st, .int .u16 s.sl, .int .u32 s.g] 111) = wb at *
  have b0 : wb.cell? ⟨w.heap.size, 0, none⟩ = some (.int .u32 s.o) := blk_cell (i := 0) hb1 (Ext.refl _) rfl
  have b1 : wb.cell? ⟨w.heap.size, 1, none⟩ = some (.int .u16 s.st) := blk_cell (i := 1) hb1 (Ext.refl _) rfl
  have b2 : wb.cell? ⟨w.heap.size, 2, none⟩ = some (.int .u16 s.sl) := blk_cell (i := 2) hb1 (Ext.refl _) rfl
  have b3 : wb.cell? ⟨w.heap.size, 3, none⟩ = some (.int .u32 s.g) := blk_cell (i := 3) hb1 (Ext.refl _) rfl
  go_wp2_with fail
  refine (begin_twice S gv gm gd l size cells loose syncs s A n c ys wb (HV.out.ext e0.out) (HD.out.ext e0.out) HS.out (HR.out.ext e0.out) hn HM.out).mono ?_
  rintro e w1 ⟨rfl, he1⟩
  have E1 := Lib.hid (e0.out.trans he1)
  clear he1 hb1 b0 b1 b2 b3
  go_wp2_with fail
  go_ret
  exact ⟨rfl, E1.out⟩
set_option maxRecDepth 100000 in
set_option maxHeartbeats 2000000 in
theorem put_new (S : Nat → Prop) (gv gm gd : Nat) (l : List (Sh × Nat)) (size : Int) (cells : List (List Int)) (loose : List (Int × List Int)) (syncs : Int) (s : Sh) (A : Option Addr) (n c : Nat) (ys : List Int) (w : World) (h : VaultAt w gv gm gd l) (hd : Disk.Disk w S gd size cells loose syncs)
    (hs : s.Ok) (hr : Rd w .u8 A n ys) (hn : n ≤ 60000) (hm : s ∉ l.map (·.1)) (hsz : (24 + n : Nat) ≤ size) (m : Nat) (hmc : m < cells.length) (hu : ∀ j, j < m → j ∈ l.map (·.2)) (hf : m ∉ l.map (·.2)) (hl : ∀ p ∈ l, p.2 < cells.length) (hll : l.length ≤ 1000000) (hx : loose.length ≤ 1099511627000) (hgv : ¬ S gv) (hgm : ¬ S gm) (hsy : syncs ≤ 1099511627776) :
    Calls Try.prog 63 #[.pointer (some ⟨gv, 0, none⟩), shV s, .slice A n c] w fun e w' => e = .returned (.int .i64 0) ∧ VaultAt w' gv gm gd (l ++ [(s, m)]) ∧ Disk.Disk w' (Plus S w w') gd size (DiskP.puts cells (loose ++ [((m : Int), cellOf s ys)])) [] (syncs + 1) ∧ Chg (fun i => S i ∨ i = gm) w w' := by
  have e0 := Lib.hid (Ext.new w (.cells #[.int .u32 s.o, .int .u16 s.st, .int .u16 s.sl, .int .u32 s.g] 111))
  have hb1 := at_new w (.cells #[.int .u32 s.o, .int .u16 s.st, .int .u16 s.sl, .int .u32 s.g] 111)
  have HV := Lib.hid h
  have HD := Lib.hid hd
  have HR := Lib.hid hr
  have HS := Lib.hid hs
  have HM := Lib.hid hm
  have HU := Lib.hid hu
  have HF := Lib.hid hf
  have HL := Lib.hid hl
  have HGV := Lib.hid hgv
  have HGM := Lib.hid hgm
  have hvl := h.lt
  clear h hd hr hs hm hu hf hl hgv hgm
  go_enter Try.func63, Try.ntmps63
  go_upto_region 1 with fail
  generalize w.alloc (.cells #[.int .u32 s.o, .int .u16 s.st, .int .u16 s.sl, .int .u32 s.g] 111) = wb at *
  have b0 : wb.cell? ⟨w.heap.size, 0, none⟩ = some (.int .u32 s.o) := blk_cell (i := 0) hb1 (Ext.refl _) rfl
  have b1 : wb.cell? ⟨w.heap.size, 1, none⟩ = some (.int .u16 s.st) := blk_cell (i := 1) hb1 (Ext.refl _) rfl
  have b2 : wb.cell? ⟨w.heap.size, 2, none⟩ = some (.int .u16 s.sl) := blk_cell (i := 2) hb1 (Ext.refl _) rfl
  have b3 : wb.cell? ⟨w.heap.size, 3, none⟩ = some (.int .u32 s.g) := blk_cell (i := 3) hb1 (Ext.refl _) rfl
  go_wp2_with fail
  refine (begin_new S gv gm gd l size cells loose syncs s A n c ys wb (HV.out.ext e0.out) (HD.out.ext e0.out) HS.out (HR.out.ext e0.out) hn HM.out hsz m hmc HU.out HF.out HL.out hll (by omega) HGV.out HGM.out).mono ?_
  rintro e w1 ⟨rfl, hv1, hd1, hc1⟩
  have hwb : w.heap.size ≤ wb.heap.size := e0.out.size
  have hw1 : wb.heap.size ≤ w1.heap.size := hc1.size
  have HV1 := Lib.hid hv1
  have HD1 := Lib.hid hd1
  have HC1 := Lib.hid ((Below.chg (S := fun i => S i ∨ i = gm) e0.out).trans hc1)
  have q0 : w1.cell? ⟨gv, 0, none⟩ = some (.pointer (some ⟨gd, 0, none⟩)) := blk_cell (i := 0) hv1.at_ (Ext.refl _) rfl
  clear hv1 hd1 hc1 hb1 b0 b1 b2 b3
  go_wp2_with fail
  refine (Disk.sync_calls _ gd size cells _ syncs w1 HD1.out hsy (by simp; omega)).mono ?_
  rintro e w2 ⟨rfl, hd2, hc2⟩
  have hw2 : w1.heap.size ≤ w2.heap.size := hc2.size
  have HD2 := Lib.hid hd2
  have HC2 := Lib.hid hc2
  clear hd2 hc2 q0
  go_wp2_with fail
  go_ret
  refine ⟨rfl, HV1.out.chg HC2.out (fun k => k.elim HGV.out fun k => by omega) (fun k => k.elim HGM.out fun k => by omega), ?_, ?_⟩
  · exact HD2.out.mono (Plus.mono hwb hw2) (Plus.lt (fun i hi => HD.out.lt i hi) (by omega))
  · exact HC1.out.step HC2.out fun i hi k => k.elim .inl fun k => by omega
end Go.Proofs.Ytipmkddcdnbihaa.Vault
