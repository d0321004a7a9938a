/- A step written by the document, walked. -/
import Derived.Test.YtfhgjopoohfhjaaScriptG
import Derived.Test.YtfhgjopoohfhjaaLexU
namespace Go.Proofs.Ytfhgjopoohfhjaa.Script
open Go.RowKit Base Step Vec
open ScriptP (L nm nameI kindOf Kind form formI digits digitsI numP numR chr cut St field write)
set_option maxRecDepth 100000 in
set_option maxHeartbeats 20000000 in
theorem rwrite_calls (s : St) (D : Option Addr) (n c : Nat) (w : World) (hs : Ok s) (hd : Rd w .u8 D n (ints s.data)) :
    Calls Try.prog 47 #[stV s D n c] w fun e w' => e = .returned (.string (S (write s))) ∧ Ext w w' := by
  have hx1 := at_new w (.cells (cellsV s D n c) 43)
  have hE1 := Ext.new w (.cells (cellsV s D n c) 43)
  have c0 := blk_cell (i := 0) hx1 (Ext.refl _) rfl
  have HX1 := Lib.hid hx1
  have HE1 := Lib.hid hE1
  have hnl := name_short s.kind
  have hdn := digitsI_short hs.node1
  have hda := digitsI_short hs.a1
  have hdb := digitsI_short hs.b1
  have hb0 := hs.bits0
  have hb1 := hs.bits1
  have hbw : IntKind.i64.wrap s.bits = s.bits := IntWalk.i64_in _ (by omega)
  have hdx := digitsI_short (n := s.bits) (by omega)
  have HDN := Lib.hid fun W => rdigits_calls s.node W hs.node1
  have HDA := Lib.hid fun W => rdigits_calls s.a W hs.a1
  have HDB := Lib.hid fun W => rdigits_calls s.b W hs.b1
  have HDX := Lib.hid fun W => rdigits_calls s.bits W (by omega)
  have hname := hs.name
  have hdata := hs.data
  clear hx1 hE1
  go_enter Try.func47, Try.ntmps47
  go_wp2_with fail
  refine (rname_calls s.kind _).mono ?_
  rintro e w2 ⟨rfl, he2⟩
  have hx2 := he2.at_ HX1.out
  have hE2 := HE1.out.trans he2
  have HD2 := Lib.hid (hd.ext hE2)
  have HE := Lib.hid hE2
  have hsd : (convert 22 9 (.slice D n c)).run Try.prog w2 = .ok (.string (S s.data)) w2 := by
    have := run_string (P := Try.prog) 22 9 5 c Try.underlying22 Try.underlying5 Try.underlying9 HD2.out
    rw [str_ints] at this
    exact this
  have q0 : w2.cell? ⟨w.heap.size, 0, none⟩ = some (.int .i64 s.kind) := blk_cell (i := 0) hx2 (Ext.refl _) rfl
  have q1 : w2.cell? ⟨w.heap.size, 1, none⟩ = some (.string (S s.name)) := blk_cell (i := 1) hx2 (Ext.refl _) rfl
  have q2 : w2.cell? ⟨w.heap.size, 2, none⟩ = some (.slice D n c) := blk_cell (i := 2) hx2 (Ext.refl _) rfl
  have q3 : w2.cell? ⟨w.heap.size, 3, none⟩ = some (.int .i64 s.node) := blk_cell (i := 3) hx2 (Ext.refl _) rfl
  have q4 : w2.cell? ⟨w.heap.size, 4, none⟩ = some (.int .i64 s.a) := blk_cell (i := 4) hx2 (Ext.refl _) rfl
  have q5 : w2.cell? ⟨w.heap.size, 5, none⟩ = some (.int .i64 s.b) := blk_cell (i := 5) hx2 (Ext.refl _) rfl
  have q6 : w2.cell? ⟨w.heap.size, 6, none⟩ = some (.int .u8 s.bits) := blk_cell (i := 6) hx2 (Ext.refl _) rfl
  have HX2 := Lib.hid hx2
  clear HX1 HE1 he2 hE2 hx2 c0
  obtain ⟨a0, ha0⟩ : ∃ x, nameI s.kind = x := ⟨_, rfl⟩
  obtain ⟨xn, hxn⟩ : ∃ x, digitsI s.node = x := ⟨_, rfl⟩
  obtain ⟨xa, hxa⟩ : ∃ x, digitsI s.a = x := ⟨_, rfl⟩
  obtain ⟨xb, hxb⟩ : ∃ x, digitsI s.b = x := ⟨_, rfl⟩
  obtain ⟨xx, hxx⟩ : ∃ x, digitsI s.bits = x := ⟨_, rfl⟩
  have hwr : write s = a0 ++ (formI s.kind).flatMap fun c => 32 :: (if c = 110 then s.name else if c = 100 then s.data else if c = 119 then xn else if c = 97 then xa else if c = 98 then xb else xx) := by
    rw [← ha0, ← hxn, ← hxa, ← hxb, ← hxx]
    rfl
  rw [hxn] at hdn HDN
  rw [hxa] at hda HDA
  rw [hxb] at hdb HDB
  rw [hxx] at hdx HDX
  rw [ha0] at hnl ⊢
  clear ha0 hxn hxa hxb hxx
  have hx_ways := True.intro
  have HA := Lib.hid hwr
  clear hwr
  by_cases h : 1 ≤ s.kind ∧ s.kind ≤ 17
  · rcases kinds h with hk | hk | hk | hk | hk | hk | hk | hk | hk | hk | hk | hk | hk | hk | hk | hk | hk
    · have HF : Hid (write s = a0 ++ ([] ++ (32 :: s.name) ++ (32 :: s.data) : L)) := Lib.hid (by rw [HA.out, hk]; simp [formI, form])
      rw [hk] at q0
      clear HA h
      go_wp2_with fail
      go_ret
      exact ⟨by rw [HF.out]; show Ending.returned (Value.string _) = _; first | rfl | (congr 2; apply ByteArray.ext; apply Array.ext'; simp), HE.out⟩
    · have HF : Hid (write s = a0 ++ ([] ++ (32 :: s.name) : L)) := Lib.hid (by rw [HA.out, hk]; simp [formI, form])
      rw [hk] at q0
      clear HA h
      go_wp2_with fail
      go_ret
      exact ⟨by rw [HF.out]; show Ending.returned (Value.string _) = _; first | rfl | (congr 2; apply ByteArray.ext; apply Array.ext'; simp), HE.out⟩
    · have HF : Hid (write s = a0 ++ ([] ++ (32 :: s.name) : L)) := Lib.hid (by rw [HA.out, hk]; simp [formI, form])
      rw [hk] at q0
      clear HA h
      go_wp2_with fail
      go_ret
      exact ⟨by rw [HF.out]; show Ending.returned (Value.string _) = _; first | rfl | (congr 2; apply ByteArray.ext; apply Array.ext'; simp), HE.out⟩
    · have HF : Hid (write s = a0 ++ ([] : L)) := Lib.hid (by rw [HA.out, hk]; simp [formI, form])
      rw [hk] at q0
      clear HA h
      go_wp2_with fail
      go_ret
      exact ⟨by rw [HF.out]; show Ending.returned (Value.string _) = _; first | rfl | (congr 2; apply ByteArray.ext; apply Array.ext'; simp), HE.out⟩
    · have HF : Hid (write s = a0 ++ ([] ++ (32 :: s.name) : L)) := Lib.hid (by rw [HA.out, hk]; simp [formI, form])
      rw [hk] at q0
      clear HA h
      go_wp2_with fail
      go_ret
      exact ⟨by rw [HF.out]; show Ending.returned (Value.string _) = _; first | rfl | (congr 2; apply ByteArray.ext; apply Array.ext'; simp), HE.out⟩
    · have HF : Hid (write s = a0 ++ ([] ++ (32 :: xa) : L)) := Lib.hid (by rw [HA.out, hk]; simp [formI, form])
      rw [hk] at q0
      clear HA h
      go_wp2_with fail
      refine (HDA.out _).mono ?_
      rintro e w8 ⟨rfl, he8⟩
      go_wp2_with fail
      go_ret
      exact ⟨by rw [HF.out]; show Ending.returned (Value.string _) = _; first | rfl | (congr 2; apply ByteArray.ext; apply Array.ext'; simp), HE.out.trans he8⟩
    · have HF : Hid (write s = a0 ++ ([] ++ (32 :: xa) : L)) := Lib.hid (by rw [HA.out, hk]; simp [formI, form])
      rw [hk] at q0
      clear HA h
      go_wp2_with fail
      refine (HDA.out _).mono ?_
      rintro e w8 ⟨rfl, he8⟩
      go_wp2_with fail
      go_ret
      exact ⟨by rw [HF.out]; show Ending.returned (Value.string _) = _; first | rfl | (congr 2; apply ByteArray.ext; apply Array.ext'; simp), HE.out.trans he8⟩
    · have HF : Hid (write s = a0 ++ ([] : L)) := Lib.hid (by rw [HA.out, hk]; simp [formI, form])
      rw [hk] at q0
      clear HA h
      go_wp2_with fail
      go_ret
      exact ⟨by rw [HF.out]; show Ending.returned (Value.string _) = _; first | rfl | (congr 2; apply ByteArray.ext; apply Array.ext'; simp), HE.out⟩
    · have HF : Hid (write s = a0 ++ ([] ++ (32 :: xn) ++ (32 :: xa) ++ (32 :: xb) : L)) := Lib.hid (by rw [HA.out, hk]; simp [formI, form])
      rw [hk] at q0
      clear HA h
      have e3 : ∀ W', Ext w2 W' → W'.cell? ⟨w.heap.size, 3, none⟩ = some (.int .i64 s.node) := fun W' hW => blk_cell (i := 3) HX2.out hW rfl
      have e4 : ∀ W', Ext w2 W' → W'.cell? ⟨w.heap.size, 4, none⟩ = some (.int .i64 s.a) := fun W' hW => blk_cell (i := 4) HX2.out hW rfl
      have e5 : ∀ W', Ext w2 W' → W'.cell? ⟨w.heap.size, 5, none⟩ = some (.int .i64 s.b) := fun W' hW => blk_cell (i := 5) HX2.out hW rfl
      have z1 : ¬ 9223372036854775807 < a0.length + 1 := by omega
      have z2 : ¬ 9223372036854775807 < a0.length + 1 + xn.length := by omega
      have z3 : ¬ 9223372036854775807 < a0.length + 1 + xn.length + 1 := by omega
      have z4 : ¬ 9223372036854775807 < a0.length + 1 + xn.length + 1 + xa.length := by omega
      have z5 : ¬ 9223372036854775807 < a0.length + 1 + xn.length + 1 + xa.length + 1 := by omega
      have z6 : ¬ 9223372036854775807 < a0.length + 1 + xn.length + 1 + xa.length + 1 + xb.length := by omega
      go_wp2_with fail
      refine Lex.wp_region_u [0, 1, 2, 3, 4, 5, 6, 7, 8, 9, 10, 11, 12, 13, 14, 15, 16] [] [(4, .const (.string (S xn))), (9, .const (.string (S xa))), (14, .const (.string (S xb)))] (by kernel_rfl) (by kernel_rfl) (by repeat (first | exact Lex.st_nil | refine Lex.st_cons (by first | exact Lex.nums_st | exact Lex.const_st | exact Lex.such_st | exact Lex.row_st | exact Lex.rowE_st | exact Lex.litR_st | assumption) ?_)) ?_; simp only [Lex.pick, List.getElem?_cons_succ, List.getElem?_cons_zero, List.map_nil]
      repeat (first | (refine Lex.lexU_skip (by rfl) ?_; simp only [Act.put, List.setIfInBounds_toArray, List.set_cons_zero, List.set_cons_succ]) | (refine Lex.lexU_still (by rfl) (by rfl) (by first | exact Base.Ext.refl | exact Lex.Fill.refl) ?_; apply Exists.intro; refine ⟨fun W hW => ?_, ?_⟩; (have hE := Lex.ext_of_cls hW.1; have hE2 := Lex.ext_drew hE; clear hW; go_simp; try with_reducible rfl); simp only [Act.put, List.setIfInBounds_toArray, List.set_cons_zero, List.set_cons_succ]))
      refine Lex.lexU_loose (by rfl) (by rfl) (fun W hW => ?_) ?_
      · have hE := Lex.ext_drew (Lex.ext_of_cls hW.1)
        clear hW
        go_simp
        refine (HDN.out _).mono ?_
        rintro e w8 ⟨rfl, he8⟩
        exact ⟨_, rfl, rfl, he8, trivial⟩
      rintro v rfl
      simp only [Act.put, List.setIfInBounds_toArray, List.set_cons_zero, List.set_cons_succ]
      repeat (first | (refine Lex.lexU_skip (by rfl) ?_; simp only [Act.put, List.setIfInBounds_toArray, List.set_cons_zero, List.set_cons_succ]) | (refine Lex.lexU_still (by rfl) (by rfl) (by first | exact Base.Ext.refl | exact Lex.Fill.refl) ?_; apply Exists.intro; refine ⟨fun W hW => ?_, ?_⟩; (have hE := Lex.ext_of_cls hW.1; have hE2 := Lex.ext_drew hE; clear hW; go_simp; try with_reducible rfl); simp only [Act.put, List.setIfInBounds_toArray, List.set_cons_zero, List.set_cons_succ]))
      refine Lex.lexU_loose (by rfl) (by rfl) (fun W hW => ?_) ?_
      · have hE := Lex.ext_drew (Lex.ext_of_cls hW.1)
        clear hW
        go_simp
        refine (HDA.out _).mono ?_
        rintro e w8 ⟨rfl, he8⟩
        exact ⟨_, rfl, rfl, he8, trivial⟩
      rintro v rfl
      simp only [Act.put, List.setIfInBounds_toArray, List.set_cons_zero, List.set_cons_succ]
      repeat (first | (refine Lex.lexU_skip (by rfl) ?_; simp only [Act.put, List.setIfInBounds_toArray, List.set_cons_zero, List.set_cons_succ]) | (refine Lex.lexU_still (by rfl) (by rfl) (by first | exact Base.Ext.refl | exact Lex.Fill.refl) ?_; apply Exists.intro; refine ⟨fun W hW => ?_, ?_⟩; (have hE := Lex.ext_of_cls hW.1; have hE2 := Lex.ext_drew hE; clear hW; go_simp; try with_reducible rfl); simp only [Act.put, List.setIfInBounds_toArray, List.set_cons_zero, List.set_cons_succ]))
      refine Lex.lexU_loose (by rfl) (by rfl) (fun W hW => ?_) ?_
      · have hE := Lex.ext_drew (Lex.ext_of_cls hW.1)
        clear hW
        go_simp
        refine (HDB.out _).mono ?_
        rintro e w8 ⟨rfl, he8⟩
        exact ⟨_, rfl, rfl, he8, trivial⟩
      rintro v rfl
      simp only [Act.put, List.setIfInBounds_toArray, List.set_cons_zero, List.set_cons_succ]
      repeat (first | (refine Lex.lexU_skip (by rfl) ?_; simp only [Act.put, List.setIfInBounds_toArray, List.set_cons_zero, List.set_cons_succ]) | (refine Lex.lexU_still (by rfl) (by rfl) (by first | exact Base.Ext.refl | exact Lex.Fill.refl) ?_; apply Exists.intro; refine ⟨fun W hW => ?_, ?_⟩; (have hE := Lex.ext_of_cls hW.1; have hE2 := Lex.ext_drew hE; clear hW; go_simp; try with_reducible rfl); simp only [Act.put, List.setIfInBounds_toArray, List.set_cons_zero, List.set_cons_succ]))
      refine Lex.lexU_nil (fun W hW => ?_)
      have HEW := Lib.hid (HE.out.trans (Lex.ext_drew (Lex.ext_of_cls hW.1)))
      clear hW
      refine Lex.onlyN_intro ?_
      go_wp2_with fail
      go_ret
      exact ⟨by rw [HF.out]; show Ending.returned (Value.string _) = _; first | rfl | (congr 2; apply ByteArray.ext; apply Array.ext'; simp), HEW.out⟩
    · have HF : Hid (write s = a0 ++ ([] ++ (32 :: xn) : L)) := Lib.hid (by rw [HA.out, hk]; simp [formI, form])
      rw [hk] at q0
      clear HA h
      go_wp2_with fail
      refine (HDN.out _).mono ?_
      rintro e w8 ⟨rfl, he8⟩
      go_wp2_with fail
      go_ret
      exact ⟨by rw [HF.out]; show Ending.returned (Value.string _) = _; first | rfl | (congr 2; apply ByteArray.ext; apply Array.ext'; simp), HE.out.trans he8⟩
    · have HF : Hid (write s = a0 ++ ([] ++ (32 :: xn) : L)) := Lib.hid (by rw [HA.out, hk]; simp [formI, form])
      rw [hk] at q0
      clear HA h
      go_wp2_with fail
      refine (HDN.out _).mono ?_
      rintro e w8 ⟨rfl, he8⟩
      go_wp2_with fail
      go_ret
      exact ⟨by rw [HF.out]; show Ending.returned (Value.string _) = _; first | rfl | (congr 2; apply ByteArray.ext; apply Array.ext'; simp), HE.out.trans he8⟩
    · have HF : Hid (write s = a0 ++ ([] ++ (32 :: xn) ++ (32 :: xa) ++ (32 :: xb) : L)) := Lib.hid (by rw [HA.out, hk]; simp [formI, form])
      rw [hk] at q0
      clear HA h
      have e3 : ∀ W', Ext w2 W' → W'.cell? ⟨w.heap.size, 3, none⟩ = some (.int .i64 s.node) := fun W' hW => blk_cell (i := 3) HX2.out hW rfl
      have e4 : ∀ W', Ext w2 W' → W'.cell? ⟨w.heap.size, 4, none⟩ = some (.int .i64 s.a) := fun W' hW => blk_cell (i := 4) HX2.out hW rfl
      have e5 : ∀ W', Ext w2 W' → W'.cell? ⟨w.heap.size, 5, none⟩ = some (.int .i64 s.b) := fun W' hW => blk_cell (i := 5) HX2.out hW rfl
      have z1 : ¬ 9223372036854775807 < a0.length + 1 := by omega
      have z2 : ¬ 9223372036854775807 < a0.length + 1 + xn.length := by omega
      have z3 : ¬ 9223372036854775807 < a0.length + 1 + xn.length + 1 := by omega
      have z4 : ¬ 9223372036854775807 < a0.length + 1 + xn.length + 1 + xa.length := by omega
      have z5 : ¬ 9223372036854775807 < a0.length + 1 + xn.length + 1 + xa.length + 1 := by omega
      have z6 : ¬ 9223372036854775807 < a0.length + 1 + xn.length + 1 + xa.length + 1 + xb.length := by omega
      go_wp2_with fail
      refine Lex.wp_region_u [0, 1, 2, 3, 4, 5, 6, 7, 8, 9, 10, 11, 12, 13, 14, 15, 16] [] [(4, .const (.string (S xn))), (9, .const (.string (S xa))), (14, .const (.string (S xb)))] (by kernel_rfl) (by kernel_rfl) (by repeat (first | exact Lex.st_nil | refine Lex.st_cons (by first | exact Lex.nums_st | exact Lex.const_st | exact Lex.such_st | exact Lex.row_st | exact Lex.rowE_st | exact Lex.litR_st | assumption) ?_)) ?_; simp only [Lex.pick, List.getElem?_cons_succ, List.getElem?_cons_zero, List.map_nil]
      repeat (first | (refine Lex.lexU_skip (by rfl) ?_; simp only [Act.put, List.setIfInBounds_toArray, List.set_cons_zero, List.set_cons_succ]) | (refine Lex.lexU_still (by rfl) (by rfl) (by first | exact Base.Ext.refl | exact Lex.Fill.refl) ?_; apply Exists.intro; refine ⟨fun W hW => ?_, ?_⟩; (have hE := Lex.ext_of_cls hW.1; have hE2 := Lex.ext_drew hE; clear hW; go_simp; try with_reducible rfl); simp only [Act.put, List.setIfInBounds_toArray, List.set_cons_zero, List.set_cons_succ]))
      refine Lex.lexU_loose (by rfl) (by rfl) (fun W hW => ?_) ?_
      · have hE := Lex.ext_drew (Lex.ext_of_cls hW.1)
        clear hW
        go_simp
        refine (HDN.out _).mono ?_
        rintro e w8 ⟨rfl, he8⟩
        exact ⟨_, rfl, rfl, he8, trivial⟩
      rintro v rfl
      simp only [Act.put, List.setIfInBounds_toArray, List.set_cons_zero, List.set_cons_succ]
      repeat (first | (refine Lex.lexU_skip (by rfl) ?_; simp only [Act.put, List.setIfInBounds_toArray, List.set_cons_zero, List.set_cons_succ]) | (refine Lex.lexU_still (by rfl) (by rfl) (by first | exact Base.Ext.refl | exact Lex.Fill.refl) ?_; apply Exists.intro; refine ⟨fun W hW => ?_, ?_⟩; (have hE := Lex.ext_of_cls hW.1; have hE2 := Lex.ext_drew hE; clear hW; go_simp; try with_reducible rfl); simp only [Act.put, List.setIfInBounds_toArray, List.set_cons_zero, List.set_cons_succ]))
      refine Lex.lexU_loose (by rfl) (by rfl) (fun W hW => ?_) ?_
      · have hE := Lex.ext_drew (Lex.ext_of_cls hW.1)
        clear hW
        go_simp
        refine (HDA.out _).mono ?_
        rintro e w8 ⟨rfl, he8⟩
        exact ⟨_, rfl, rfl, he8, trivial⟩
      rintro v rfl
      simp only [Act.put, List.setIfInBounds_toArray, List.set_cons_zero, List.set_cons_succ]
      repeat (first | (refine Lex.lexU_skip (by rfl) ?_; simp only [Act.put, List.setIfInBounds_toArray, List.set_cons_zero, List.set_cons_succ]) | (refine Lex.lexU_still (by rfl) (by rfl) (by first | exact Base.Ext.refl | exact Lex.Fill.refl) ?_; apply Exists.intro; refine ⟨fun W hW => ?_, ?_⟩; (have hE := Lex.ext_of_cls hW.1; have hE2 := Lex.ext_drew hE; clear hW; go_simp; try with_reducible rfl); simp only [Act.put, List.setIfInBounds_toArray, List.set_cons_zero, List.set_cons_succ]))
      refine Lex.lexU_loose (by rfl) (by rfl) (fun W hW => ?_) ?_
      · have hE := Lex.ext_drew (Lex.ext_of_cls hW.1)
        clear hW
        go_simp
        refine (HDB.out _).mono ?_
        rintro e w8 ⟨rfl, he8⟩
        exact ⟨_, rfl, rfl, he8, trivial⟩
      rintro v rfl
      simp only [Act.put, List.setIfInBounds_toArray, List.set_cons_zero, List.set_cons_succ]
      repeat (first | (refine Lex.lexU_skip (by rfl) ?_; simp only [Act.put, List.setIfInBounds_toArray, List.set_cons_zero, List.set_cons_succ]) | (refine Lex.lexU_still (by rfl) (by rfl) (by first | exact Base.Ext.refl | exact Lex.Fill.refl) ?_; apply Exists.intro; refine ⟨fun W hW => ?_, ?_⟩; (have hE := Lex.ext_of_cls hW.1; have hE2 := Lex.ext_drew hE; clear hW; go_simp; try with_reducible rfl); simp only [Act.put, List.setIfInBounds_toArray, List.set_cons_zero, List.set_cons_succ]))
      refine Lex.lexU_nil (fun W hW => ?_)
      have HEW := Lib.hid (HE.out.trans (Lex.ext_drew (Lex.ext_of_cls hW.1)))
      clear hW
      refine Lex.onlyN_intro ?_
      go_wp2_with fail
      go_ret
      exact ⟨by rw [HF.out]; show Ending.returned (Value.string _) = _; first | rfl | (congr 2; apply ByteArray.ext; apply Array.ext'; simp), HEW.out⟩
    · have HF : Hid (write s = a0 ++ ([] ++ (32 :: xn) ++ (32 :: xa) ++ (32 :: xb) : L)) := Lib.hid (by rw [HA.out, hk]; simp [formI, form])
      rw [hk] at q0
      clear HA h
      have e3 : ∀ W', Ext w2 W' → W'.cell? ⟨w.heap.size, 3, none⟩ = some (.int .i64 s.node) := fun W' hW => blk_cell (i := 3) HX2.out hW rfl
      have e4 : ∀ W', Ext w2 W' → W'.cell? ⟨w.heap.size, 4, none⟩ = some (.int .i64 s.a) := fun W' hW => blk_cell (i := 4) HX2.out hW rfl
      have e5 : ∀ W', Ext w2 W' → W'.cell? ⟨w.heap.size, 5, none⟩ = some (.int .i64 s.b) := fun W' hW => blk_cell (i := 5) HX2.out hW rfl
      have z1 : ¬ 9223372036854775807 < a0.length + 1 := by omega
      have z2 : ¬ 9223372036854775807 < a0.length + 1 + xn.length := by omega
      have z3 : ¬ 9223372036854775807 < a0.length + 1 + xn.length + 1 := by omega
      have z4 : ¬ 9223372036854775807 < a0.length + 1 + xn.length + 1 + xa.length := by omega
      have z5 : ¬ 9223372036854775807 < a0.length + 1 + xn.length + 1 + xa.length + 1 := by omega
      have z6 : ¬ 9223372036854775807 < a0.length + 1 + xn.length + 1 + xa.length + 1 + xb.length := by omega
      go_wp2_with fail
      refine Lex.wp_region_u [0, 1, 2, 3, 4, 5, 6, 7, 8, 9, 10, 11, 12, 13, 14, 15, 16] [] [(4, .const (.string (S xn))), (9, .const (.string (S xa))), (14, .const (.string (S xb)))] (by kernel_rfl) (by kernel_rfl) (by repeat (first | exact Lex.st_nil | refine Lex.st_cons (by first | exact Lex.nums_st | exact Lex.const_st | exact Lex.such_st | exact Lex.row_st | exact Lex.rowE_st | exact Lex.litR_st | assumption) ?_)) ?_; simp only [Lex.pick, List.getElem?_cons_succ, List.getElem?_cons_zero, List.map_nil]
      repeat (first | (refine Lex.lexU_skip (by rfl) ?_; simp only [Act.put, List.setIfInBounds_toArray, List.set_cons_zero, List.set_cons_succ]) | (refine Lex.lexU_still (by rfl) (by rfl) (by first | exact Base.Ext.refl | exact Lex.Fill.refl) ?_; apply Exists.intro; refine ⟨fun W hW => ?_, ?_⟩; (have hE := Lex.ext_of_cls hW.1; have hE2 := Lex.ext_drew hE; clear hW; go_simp; try with_reducible rfl); simp only [Act.put, List.setIfInBounds_toArray, List.set_cons_zero, List.set_cons_succ]))
      refine Lex.lexU_loose (by rfl) (by rfl) (fun W hW => ?_) ?_
      · have hE := Lex.ext_drew (Lex.ext_of_cls hW.1)
        clear hW
        go_simp
        refine (HDN.out _).mono ?_
        rintro e w8 ⟨rfl, he8⟩
        exact ⟨_, rfl, rfl, he8, trivial⟩
      rintro v rfl
      simp only [Act.put, List.setIfInBounds_toArray, List.set_cons_zero, List.set_cons_succ]
      repeat (first | (refine Lex.lexU_skip (by rfl) ?_; simp only [Act.put, List.setIfInBounds_toArray, List.set_cons_zero, List.set_cons_succ]) | (refine Lex.lexU_still (by rfl) (by rfl) (by first | exact Base.Ext.refl | exact Lex.Fill.refl) ?_; apply Exists.intro; refine ⟨fun W hW => ?_, ?_⟩; (have hE := Lex.ext_of_cls hW.1; have hE2 := Lex.ext_drew hE; clear hW; go_simp; try with_reducible rfl); simp only [Act.put, List.setIfInBounds_toArray, List.set_cons_zero, List.set_cons_succ]))
      refine Lex.lexU_loose (by rfl) (by rfl) (fun W hW => ?_) ?_
      · have hE := Lex.ext_drew (Lex.ext_of_cls hW.1)
        clear hW
        go_simp
        refine (HDA.out _).mono ?_
        rintro e w8 ⟨rfl, he8⟩
        exact ⟨_, rfl, rfl, he8, trivial⟩
      rintro v rfl
      simp only [Act.put, List.setIfInBounds_toArray, List.set_cons_zero, List.set_cons_succ]
      repeat (first | (refine Lex.lexU_skip (by rfl) ?_; simp only [Act.put, List.setIfInBounds_toArray, List.set_cons_zero, List.set_cons_succ]) | (refine Lex.lexU_still (by rfl) (by rfl) (by first | exact Base.Ext.refl | exact Lex.Fill.refl) ?_; apply Exists.intro; refine ⟨fun W hW => ?_, ?_⟩; (have hE := Lex.ext_of_cls hW.1; have hE2 := Lex.ext_drew hE; clear hW; go_simp; try with_reducible rfl); simp only [Act.put, List.setIfInBounds_toArray, List.set_cons_zero, List.set_cons_succ]))
      refine Lex.lexU_loose (by rfl) (by rfl) (fun W hW => ?_) ?_
      · have hE := Lex.ext_drew (Lex.ext_of_cls hW.1)
        clear hW
        go_simp
        refine (HDB.out _).mono ?_
        rintro e w8 ⟨rfl, he8⟩
        exact ⟨_, rfl, rfl, he8, trivial⟩
      rintro v rfl
      simp only [Act.put, List.setIfInBounds_toArray, List.set_cons_zero, List.set_cons_succ]
      repeat (first | (refine Lex.lexU_skip (by rfl) ?_; simp only [Act.put, List.setIfInBounds_toArray, List.set_cons_zero, List.set_cons_succ]) | (refine Lex.lexU_still (by rfl) (by rfl) (by first | exact Base.Ext.refl | exact Lex.Fill.refl) ?_; apply Exists.intro; refine ⟨fun W hW => ?_, ?_⟩; (have hE := Lex.ext_of_cls hW.1; have hE2 := Lex.ext_drew hE; clear hW; go_simp; try with_reducible rfl); simp only [Act.put, List.setIfInBounds_toArray, List.set_cons_zero, List.set_cons_succ]))
      refine Lex.lexU_nil (fun W hW => ?_)
      have HEW := Lib.hid (HE.out.trans (Lex.ext_drew (Lex.ext_of_cls hW.1)))
      clear hW
      refine Lex.onlyN_intro ?_
      go_wp2_with fail
      go_ret
      exact ⟨by rw [HF.out]; show Ending.returned (Value.string _) = _; first | rfl | (congr 2; apply ByteArray.ext; apply Array.ext'; simp), HEW.out⟩
    · have HF : Hid (write s = a0 ++ ([] ++ (32 :: xn) ++ (32 :: xa) ++ (32 :: xb) ++ (32 :: xx) : L)) := Lib.hid (by rw [HA.out, hk]; simp [formI, form])
      rw [hk] at q0
      clear HA h
      have e3 : ∀ W', Ext w2 W' → W'.cell? ⟨w.heap.size, 3, none⟩ = some (.int .i64 s.node) := fun W' hW => blk_cell (i := 3) HX2.out hW rfl
      have e4 : ∀ W', Ext w2 W' → W'.cell? ⟨w.heap.size, 4, none⟩ = some (.int .i64 s.a) := fun W' hW => blk_cell (i := 4) HX2.out hW rfl
      have e5 : ∀ W', Ext w2 W' → W'.cell? ⟨w.heap.size, 5, none⟩ = some (.int .i64 s.b) := fun W' hW => blk_cell (i := 5) HX2.out hW rfl
      have e6 : ∀ W', Ext w2 W' → W'.cell? ⟨w.heap.size, 6, none⟩ = some (.int .u8 s.bits) := fun W' hW => blk_cell (i := 6) HX2.out hW rfl
      have z1 : ¬ 9223372036854775807 < a0.length + 1 := by omega
      have z2 : ¬ 9223372036854775807 < a0.length + 1 + xn.length := by omega
      have z3 : ¬ 9223372036854775807 < a0.length + 1 + xn.length + 1 := by omega
      have z4 : ¬ 9223372036854775807 < a0.length + 1 + xn.length + 1 + xa.length := by omega
      have z5 : ¬ 9223372036854775807 < a0.length + 1 + xn.length + 1 + xa.length + 1 := by omega
      have z6 : ¬ 9223372036854775807 < a0.length + 1 + xn.length + 1 + xa.length + 1 + xb.length := by omega
      have z7 : ¬ 9223372036854775807 < a0.length + 1 + xn.length + 1 + xa.length + 1 + xb.length + 1 := by omega
      have z8 : ¬ 9223372036854775807 < a0.length + 1 + xn.length + 1 + xa.length + 1 + xb.length + 1 + xx.length := by omega
      go_wp2_with fail
      refine Lex.wp_region_u [0, 1, 2, 3, 4, 5, 6, 7, 8, 9, 10, 11, 12, 13, 14, 15, 16, 17, 18, 19, 20, 21, 22] [] [(4, .const (.string (S xn))), (9, .const (.string (S xa))), (14, .const (.string (S xb))), (20, .const (.string (S xx)))] (by kernel_rfl) (by kernel_rfl) (by repeat (first | exact Lex.st_nil | refine Lex.st_cons (by first | exact Lex.nums_st | exact Lex.const_st | exact Lex.such_st | exact Lex.row_st | exact Lex.rowE_st | exact Lex.litR_st | assumption) ?_)) ?_; simp only [Lex.pick, List.getElem?_cons_succ, List.getElem?_cons_zero, List.map_nil]
      repeat (first | (refine Lex.lexU_skip (by rfl) ?_; simp only [Act.put, List.setIfInBounds_toArray, List.set_cons_zero, List.set_cons_succ]) | (refine Lex.lexU_still (by rfl) (by rfl) (by first | exact Base.Ext.refl | exact Lex.Fill.refl) ?_; apply Exists.intro; refine ⟨fun W hW => ?_, ?_⟩; (have hE := Lex.ext_of_cls hW.1; have hE2 := Lex.ext_drew hE; clear hW; go_simp; try with_reducible rfl); simp only [Act.put, List.setIfInBounds_toArray, List.set_cons_zero, List.set_cons_succ]))
      refine Lex.lexU_loose (by rfl) (by rfl) (fun W hW => ?_) ?_
      · have hE := Lex.ext_drew (Lex.ext_of_cls hW.1)
        clear hW
        go_simp
        refine (HDN.out _).mono ?_
        rintro e w8 ⟨rfl, he8⟩
        exact ⟨_, rfl, rfl, he8, trivial⟩
      rintro v rfl
      simp only [Act.put, List.setIfInBounds_toArray, List.set_cons_zero, List.set_cons_succ]
      repeat (first | (refine Lex.lexU_skip (by rfl) ?_; simp only [Act.put, List.setIfInBounds_toArray, List.set_cons_zero, List.set_cons_succ]) | (refine Lex.lexU_still (by rfl) (by rfl) (by first | exact Base.Ext.refl | exact Lex.Fill.refl) ?_; apply Exists.intro; refine ⟨fun W hW => ?_, ?_⟩; (have hE := Lex.ext_of_cls hW.1; have hE2 := Lex.ext_drew hE; clear hW; go_simp; try with_reducible rfl); simp only [Act.put, List.setIfInBounds_toArray, List.set_cons_zero, List.set_cons_succ]))
      refine Lex.lexU_loose (by rfl) (by rfl) (fun W hW => ?_) ?_
      · have hE := Lex.ext_drew (Lex.ext_of_cls hW.1)
        clear hW
        go_simp
        refine (HDA.out _).mono ?_
        rintro e w8 ⟨rfl, he8⟩
        exact ⟨_, rfl, rfl, he8, trivial⟩
      rintro v rfl
      simp only [Act.put, List.setIfInBounds_toArray, List.set_cons_zero, List.set_cons_succ]
      repeat (first | (refine Lex.lexU_skip (by rfl) ?_; simp only [Act.put, List.setIfInBounds_toArray, List.set_cons_zero, List.set_cons_succ]) | (refine Lex.lexU_still (by rfl) (by rfl) (by first | exact Base.Ext.refl | exact Lex.Fill.refl) ?_; apply Exists.intro; refine ⟨fun W hW => ?_, ?_⟩; (have hE := Lex.ext_of_cls hW.1; have hE2 := Lex.ext_drew hE; clear hW; go_simp; try with_reducible rfl); simp only [Act.put, List.setIfInBounds_toArray, List.set_cons_zero, List.set_cons_succ]))
      refine Lex.lexU_loose (by rfl) (by rfl) (fun W hW => ?_) ?_
      · have hE := Lex.ext_drew (Lex.ext_of_cls hW.1)
        clear hW
        go_simp
        refine (HDB.out _).mono ?_
        rintro e w8 ⟨rfl, he8⟩
        exact ⟨_, rfl, rfl, he8, trivial⟩
      rintro v rfl
      simp only [Act.put, List.setIfInBounds_toArray, List.set_cons_zero, List.set_cons_succ]
      repeat (first | (refine Lex.lexU_skip (by rfl) ?_; simp only [Act.put, List.setIfInBounds_toArray, List.set_cons_zero, List.set_cons_succ]) | (refine Lex.lexU_still (by rfl) (by rfl) (by first | exact Base.Ext.refl | exact Lex.Fill.refl) ?_; apply Exists.intro; refine ⟨fun W hW => ?_, ?_⟩; (have hE := Lex.ext_of_cls hW.1; have hE2 := Lex.ext_drew hE; clear hW; go_simp; try with_reducible rfl); simp only [Act.put, List.setIfInBounds_toArray, List.set_cons_zero, List.set_cons_succ]))
      refine Lex.lexU_loose (by rfl) (by rfl) (fun W hW => ?_) ?_
      · have hE := Lex.ext_drew (Lex.ext_of_cls hW.1)
        clear hW
        go_simp
        refine (HDX.out _).mono ?_
        rintro e w8 ⟨rfl, he8⟩
        exact ⟨_, rfl, rfl, he8, trivial⟩
      rintro v rfl
      simp only [Act.put, List.setIfInBounds_toArray, List.set_cons_zero, List.set_cons_succ]
      repeat (first | (refine Lex.lexU_skip (by rfl) ?_; simp only [Act.put, List.setIfInBounds_toArray, List.set_cons_zero, List.set_cons_succ]) | (refine Lex.lexU_still (by rfl) (by rfl) (by first | exact Base.Ext.refl | exact Lex.Fill.refl) ?_; apply Exists.intro; refine ⟨fun W hW => ?_, ?_⟩; (have hE := Lex.ext_of_cls hW.1; have hE2 := Lex.ext_drew hE; clear hW; go_simp; try with_reducible rfl); simp only [Act.put, List.setIfInBounds_toArray, List.set_cons_zero, List.set_cons_succ]))
      refine Lex.lexU_nil (fun W hW => ?_)
      have HEW := Lib.hid (HE.out.trans (Lex.ext_drew (Lex.ext_of_cls hW.1)))
      clear hW
      refine Lex.onlyN_intro ?_
      go_wp2_with fail
      go_ret
      exact ⟨by rw [HF.out]; show Ending.returned (Value.string _) = _; first | rfl | (congr 2; apply ByteArray.ext; apply Array.ext'; simp), HEW.out⟩
    · have HF : Hid (write s = a0 ++ ([] ++ (32 :: xn) ++ (32 :: xa) : L)) := Lib.hid (by rw [HA.out, hk]; simp [formI, form])
      rw [hk] at q0
      clear HA h
      have e3 : ∀ W', Ext w2 W' → W'.cell? ⟨w.heap.size, 3, none⟩ = some (.int .i64 s.node) := fun W' hW => blk_cell (i := 3) HX2.out hW rfl
      have e4 : ∀ W', Ext w2 W' → W'.cell? ⟨w.heap.size, 4, none⟩ = some (.int .i64 s.a) := fun W' hW => blk_cell (i := 4) HX2.out hW rfl
      have z1 : ¬ 9223372036854775807 < a0.length + 1 := by omega
      have z2 : ¬ 9223372036854775807 < a0.length + 1 + xn.length := by omega
      have z3 : ¬ 9223372036854775807 < a0.length + 1 + xn.length + 1 := by omega
      have z4 : ¬ 9223372036854775807 < a0.length + 1 + xn.length + 1 + xa.length := by omega
      go_wp2_with fail
      refine Lex.wp_region_u [0, 1, 2, 3, 4, 5, 6, 7, 8, 9, 10, 11] [] [(4, .const (.string (S xn))), (9, .const (.string (S xa)))] (by kernel_rfl) (by kernel_rfl) (by repeat (first | exact Lex.st_nil | refine Lex.st_cons (by first | exact Lex.nums_st | exact Lex.const_st | exact Lex.such_st | exact Lex.row_st | exact Lex.rowE_st | exact Lex.litR_st | assumption) ?_)) ?_; simp only [Lex.pick, List.getElem?_cons_succ, List.getElem?_cons_zero, List.map_nil]
      repeat (first | (refine Lex.lexU_skip (by rfl) ?_; simp only [Act.put, List.setIfInBounds_toArray, List.set_cons_zero, List.set_cons_succ]) | (refine Lex.lexU_still (by rfl) (by rfl) (by first | exact Base.Ext.refl | exact Lex.Fill.refl) ?_; apply Exists.intro; refine ⟨fun W hW => ?_, ?_⟩; (have hE := Lex.ext_of_cls hW.1; have hE2 := Lex.ext_drew hE; clear hW; go_simp; try with_reducible rfl); simp only [Act.put, List.setIfInBounds_toArray, List.set_cons_zero, List.set_cons_succ]))
      refine Lex.lexU_loose (by rfl) (by rfl) (fun W hW => ?_) ?_
      · have hE := Lex.ext_drew (Lex.ext_of_cls hW.1)
        clear hW
        go_simp
        refine (HDN.out _).mono ?_
        rintro e w8 ⟨rfl, he8⟩
        exact ⟨_, rfl, rfl, he8, trivial⟩
      rintro v rfl
      simp only [Act.put, List.setIfInBounds_toArray, List.set_cons_zero, List.set_cons_succ]
      repeat (first | (refine Lex.lexU_skip (by rfl) ?_; simp only [Act.put, List.setIfInBounds_toArray, List.set_cons_zero, List.set_cons_succ]) | (refine Lex.lexU_still (by rfl) (by rfl) (by first | exact Base.Ext.refl | exact Lex.Fill.refl) ?_; apply Exists.intro; refine ⟨fun W hW => ?_, ?_⟩; (have hE := Lex.ext_of_cls hW.1; have hE2 := Lex.ext_drew hE; clear hW; go_simp; try with_reducible rfl); simp only [Act.put, List.setIfInBounds_toArray, List.set_cons_zero, List.set_cons_succ]))
      refine Lex.lexU_loose (by rfl) (by rfl) (fun W hW => ?_) ?_
      · have hE := Lex.ext_drew (Lex.ext_of_cls hW.1)
        clear hW
        go_simp
        refine (HDA.out _).mono ?_
        rintro e w8 ⟨rfl, he8⟩
        exact ⟨_, rfl, rfl, he8, trivial⟩
      rintro v rfl
      simp only [Act.put, List.setIfInBounds_toArray, List.set_cons_zero, List.set_cons_succ]
      repeat (first | (refine Lex.lexU_skip (by rfl) ?_; simp only [Act.put, List.setIfInBounds_toArray, List.set_cons_zero, List.set_cons_succ]) | (refine Lex.lexU_still (by rfl) (by rfl) (by first | exact Base.Ext.refl | exact Lex.Fill.refl) ?_; apply Exists.intro; refine ⟨fun W hW => ?_, ?_⟩; (have hE := Lex.ext_of_cls hW.1; have hE2 := Lex.ext_drew hE; clear hW; go_simp; try with_reducible rfl); simp only [Act.put, List.setIfInBounds_toArray, List.set_cons_zero, List.set_cons_succ]))
      refine Lex.lexU_nil (fun W hW => ?_)
      have HEW := Lib.hid (HE.out.trans (Lex.ext_drew (Lex.ext_of_cls hW.1)))
      clear hW
      refine Lex.onlyN_intro ?_
      go_wp2_with fail
      go_ret
      exact ⟨by rw [HF.out]; show Ending.returned (Value.string _) = _; first | rfl | (congr 2; apply ByteArray.ext; apply Array.ext'; simp), HEW.out⟩
    · have HF : Hid (write s = a0 ++ ([] ++ (32 :: xa) ++ (32 :: xb) : L)) := Lib.hid (by rw [HA.out, hk]; simp [formI, form])
      rw [hk] at q0
      clear HA h
      have e4 : ∀ W', Ext w2 W' → W'.cell? ⟨w.heap.size, 4, none⟩ = some (.int .i64 s.a) := fun W' hW => blk_cell (i := 4) HX2.out hW rfl
      have e5 : ∀ W', Ext w2 W' → W'.cell? ⟨w.heap.size, 5, none⟩ = some (.int .i64 s.b) := fun W' hW => blk_cell (i := 5) HX2.out hW rfl
      have z1 : ¬ 9223372036854775807 < a0.length + 1 := by omega
      have z2 : ¬ 9223372036854775807 < a0.length + 1 + xa.length := by omega
      have z3 : ¬ 9223372036854775807 < a0.length + 1 + xa.length + 1 := by omega
      have z4 : ¬ 9223372036854775807 < a0.length + 1 + xa.length + 1 + xb.length := by omega
      go_wp2_with fail
      refine Lex.wp_region_u [0, 1, 2, 3, 4, 5, 6, 7, 8, 9, 10, 11] [] [(4, .const (.string (S xa))), (9, .const (.string (S xb)))] (by kernel_rfl) (by kernel_rfl) (by repeat (first | exact Lex.st_nil | refine Lex.st_cons (by first | exact Lex.nums_st | exact Lex.const_st | exact Lex.such_st | exact Lex.row_st | exact Lex.rowE_st | exact Lex.litR_st | assumption) ?_)) ?_; simp only [Lex.pick, List.getElem?_cons_succ, List.getElem?_cons_zero, List.map_nil]
      repeat (first | (refine Lex.lexU_skip (by rfl) ?_; simp only [Act.put, List.setIfInBounds_toArray, List.set_cons_zero, List.set_cons_succ]) | (refine Lex.lexU_still (by rfl) (by rfl) (by first | exact Base.Ext.refl | exact Lex.Fill.refl) ?_; apply Exists.intro; refine ⟨fun W hW => ?_, ?_⟩; (have hE := Lex.ext_of_cls hW.1; have hE2 := Lex.ext_drew hE; clear hW; go_simp; try with_reducible rfl); simp only [Act.put, List.setIfInBounds_toArray, List.set_cons_zero, List.set_cons_succ]))
      refine Lex.lexU_loose (by rfl) (by rfl) (fun W hW => ?_) ?_
      · have hE := Lex.ext_drew (Lex.ext_of_cls hW.1)
        clear hW
        go_simp
        refine (HDA.out _).mono ?_
        rintro e w8 ⟨rfl, he8⟩
        exact ⟨_, rfl, rfl, he8, trivial⟩
      rintro v rfl
      simp only [Act.put, List.setIfInBounds_toArray, List.set_cons_zero, List.set_cons_succ]
      repeat (first | (refine Lex.lexU_skip (by rfl) ?_; simp only [Act.put, List.setIfInBounds_toArray, List.set_cons_zero, List.set_cons_succ]) | (refine Lex.lexU_still (by rfl) (by rfl) (by first | exact Base.Ext.refl | exact Lex.Fill.refl) ?_; apply Exists.intro; refine ⟨fun W hW => ?_, ?_⟩; (have hE := Lex.ext_of_cls hW.1; have hE2 := Lex.ext_drew hE; clear hW; go_simp; try with_reducible rfl); simp only [Act.put, List.setIfInBounds_toArray, List.set_cons_zero, List.set_cons_succ]))
      refine Lex.lexU_loose (by rfl) (by rfl) (fun W hW => ?_) ?_
      · have hE := Lex.ext_drew (Lex.ext_of_cls hW.1)
        clear hW
        go_simp
        refine (HDB.out _).mono ?_
        rintro e w8 ⟨rfl, he8⟩
        exact ⟨_, rfl, rfl, he8, trivial⟩
      rintro v rfl
      simp only [Act.put, List.setIfInBounds_toArray, List.set_cons_zero, List.set_cons_succ]
      repeat (first | (refine Lex.lexU_skip (by rfl) ?_; simp only [Act.put, List.setIfInBounds_toArray, List.set_cons_zero, List.set_cons_succ]) | (refine Lex.lexU_still (by rfl) (by rfl) (by first | exact Base.Ext.refl | exact Lex.Fill.refl) ?_; apply Exists.intro; refine ⟨fun W hW => ?_, ?_⟩; (have hE := Lex.ext_of_cls hW.1; have hE2 := Lex.ext_drew hE; clear hW; go_simp; try with_reducible rfl); simp only [Act.put, List.setIfInBounds_toArray, List.set_cons_zero, List.set_cons_succ]))
      refine Lex.lexU_nil (fun W hW => ?_)
      have HEW := Lib.hid (HE.out.trans (Lex.ext_drew (Lex.ext_of_cls hW.1)))
      clear hW
      refine Lex.onlyN_intro ?_
      go_wp2_with fail
      go_ret
      exact ⟨by rw [HF.out]; show Ending.returned (Value.string _) = _; first | rfl | (congr 2; apply ByteArray.ext; apply Array.ext'; simp), HEW.out⟩
    · have HF : Hid (write s = a0 ++ ([] ++ (32 :: xa) : L)) := Lib.hid (by rw [HA.out, hk]; simp [formI, form])
      rw [hk] at q0
      clear HA h
      go_wp2_with fail
      refine (HDA.out _).mono ?_
      rintro e w8 ⟨rfl, he8⟩
      go_wp2_with fail
      go_ret
      exact ⟨by rw [HF.out]; show Ending.returned (Value.string _) = _; first | rfl | (congr 2; apply ByteArray.ext; apply Array.ext'; simp), HE.out.trans he8⟩
  · have HF : Hid (write s = a0) := Lib.hid (by rw [HA.out]; unfold formI; rw [if_neg h]; simp)
    have h' : s.kind < 1 ∨ 17 < s.kind := by omega
    clear HA h
    rcases h' with h' | h'
    all_goals
      go_wp2_with fail
      go_ret
      exact ⟨by rw [HF.out]; show Ending.returned (Value.string _) = _; first | rfl | (congr 2; apply ByteArray.ext; apply Array.ext'; simp), HE.out⟩
end Go.Proofs.Ytfhgjopoohfhjaa.Script
