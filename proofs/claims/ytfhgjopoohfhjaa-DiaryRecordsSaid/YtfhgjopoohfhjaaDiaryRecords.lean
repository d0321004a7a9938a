import Derived.Test.YtfhgjopoohfhjaaDiaryAwake
import Derived.Test.YtfhgjopoohfhjaaDiaryRef
namespace Go.Proofs.Ytfhgjopoohfhjaa.DiaryRecordsW
open Go.RowKit Base Step Vec
open DiaryP (records frame)
open DiaryAwake (awake_calls)
set_option maxRecDepth 100000 in
set_option maxHeartbeats 4000000 in
theorem walk (A : Option Addr) (n c : Nat) (xs : List Int) (num : Int) (B : Option Addr) (m d : Nat) (ys : List Int) (w : World) (h1 : Rd w .u8 A n xs) (_ : n * 1 ≤ 140737488351232) (hc : n ≤ c) (h0 : A = none → c = 0) (hnum : (Lit.int .u64 num).wf = true) (h2 : Rd w .u8 B m ys) (_ : m * 1 ≤ 140737488351232) (_ : m ≤ d) (_ : B = none → d = 0) :
    Calls Try.prog 3 #[.slice A n c, .int .u64 num, .slice B m d] w fun e w' => e = .returned (.bool true) ∧ Ext w w' := by
  obtain ⟨hn0, hn1⟩ := wf_u64 hnum
  have hm1 := h1.room
  have hm2 := h2.room
  have HN1 := Lib.hid hn1
  have HN0 := Lib.hid hn0
  have HC0 := Lib.hid h0
  clear hnum hn1 hn0 h0
  by_cases hs1 : 2000 < n
  · go_enter Try.func3, Try.ntmps3
    go_wp2_with fail
    refine (awake_calls _).mono ?_
    rintro e w5 ⟨rfl, he5⟩
    go_wp2_with fail
    go_ret
    exact ⟨rfl, he5⟩
  · by_cases hs2 : 2000 < m
    · go_enter Try.func3, Try.ntmps3
      go_wp2_with fail
      refine (awake_calls _).mono ?_
      rintro e w5 ⟨rfl, he5⟩
      go_wp2_with fail
      go_ret
      exact ⟨rfl, he5⟩
    · have b1 : n ≤ 2000 := by omega
      have b2 : m ≤ 2000 := by omega
      clear hs1 hs2
      go_enter Try.func3, Try.ntmps3
      go_wp2_with fail
      refine (DiaryRec.records_calls A n c xs _ h1 hc HC0.out (by omega)).mono ?_
      rintro e w1 ⟨he1, A1, m1, c1, rfl, hr1⟩
      go_wp2_with fail
      refine (DiaryRef.rrecords_calls A n c xs _ (h1.ext he1) hc (by omega)).mono ?_
      rintro e w2 ⟨he2, A2, m2, c2, rfl, hr2⟩
      have he12 := he1.trans he2
      have hq1 := (hr1.ext he2).reads
      have hq2 := hr2.reads
      obtain rfl : m1 = m2 := by have := hq1.len; have := hq2.len; omega
      have hy := h2.ext he12
      obtain rfl := hy.len
      have hwf := DiaryP.frame_length num ys
      have HFW := Lib.hid (Diary.frame_wf (num := num) hy.wf)
      have HS := Lib.hid fun W (hE : Ext w2 W) => DiaryRef.same_calls A1 m1 c1 A2 c2 _ W (hq1.ext hE) (hq2.ext hE)
      have HFR := Lib.hid fun W (hE : Ext w2 W) => DiaryRec.frame_calls num B ys.length d ys W (hy.ext hE) (by omega) HN0.out HN1.out
      have HRF := Lib.hid fun W (hE : Ext w2 W) => DiaryRef.rframe_calls num B ys.length d ys W (hy.ext hE) (by omega) HN0.out HN1.out
      generalize frame num ys = fr at *
      generalize (records xs).2 = u at *
      clear hr1 hr2 hq1 hq2 hy h1 h2 he1 he2
      go_wp2_with fail
      refine Lex.wp_region_ext [(2, .const (.bool true)), (11, .row w2 5 .u8 (20 + ys.length) fr), (15, .row w2 5 .u8 (20 + ys.length) fr), (20, .const (.bool true))] (by kernel_rfl) (by kernel_rfl) (by repeat (first | exact Lex.st_nil | refine Lex.st_cons (by first | exact Lex.nums_st | exact Lex.const_st | exact Lex.such_st | exact Lex.row_st | exact Lex.rowE_st | exact Lex.litR_st) ?_)) ?_
      repeat (first | (refine Lex.lex_skip (by rfl) ?_; simp only [Act.put, List.setIfInBounds_toArray, List.set_cons_zero, List.set_cons_succ]) | (refine Lex.lex_still (by rfl) (by rfl) ?_; apply Exists.intro; refine ⟨fun W hW => ?_, ?_⟩; (have hE := hW.1; have hE2 := Base.Ext.trans (Base.Ext.drew (Base.Ext.refl _)) hW.1; clear hW; go_simp; try with_reducible rfl); simp only [Act.put, List.setIfInBounds_toArray, List.set_cons_zero, List.set_cons_succ]))
      refine Lex.lex_loose (by rfl) (by rfl) (fun W hW => ?_) ?_
      · go_simp
        refine (HS.out _ (drew_ext hW.1)).mono ?_
        rintro e w10 ⟨rfl, he10⟩
        exact ⟨_, rfl, rfl, he10, trivial⟩
      rintro v rfl
      simp only [Act.put, List.setIfInBounds_toArray, List.set_cons_zero, List.set_cons_succ]
      repeat (first | (refine Lex.lex_skip (by rfl) ?_; simp only [Act.put, List.setIfInBounds_toArray, List.set_cons_zero, List.set_cons_succ]) | (refine Lex.lex_still (by rfl) (by rfl) ?_; apply Exists.intro; refine ⟨fun W hW => ?_, ?_⟩; (have hE := hW.1; have hE2 := Base.Ext.trans (Base.Ext.drew (Base.Ext.refl _)) hW.1; clear hW; go_simp; try with_reducible rfl); simp only [Act.put, List.setIfInBounds_toArray, List.set_cons_zero, List.set_cons_succ]))
      refine Lex.lex_loose (by rfl) (by rfl) (fun W hW => ?_) ?_
      · have hE := drew_ext hW.1
        go_simp
        refine (HFR.out _ hE).mono ?_
        rintro e w10 ⟨A10, c10, rfl, ho10, he10⟩
        exact ⟨_, rfl, ⟨A10, c10, rfl, ho10.cap.1⟩, he10, Lex.row_mk (ho10.mono fun i _ hi => Nat.le_trans hE.size hi)⟩
      rintro v ⟨A10, c10, rfl, -⟩
      simp only [Act.put, List.setIfInBounds_toArray, List.set_cons_zero, List.set_cons_succ]
      refine Lex.lex_still (by rfl) (by rfl) ?_; apply Exists.intro; refine ⟨fun W hW => ?_, ?_⟩
      · have q := run_string (P := Try.prog) 22 9 5 c10 Try.underlying22 Try.underlying5 Try.underlying9 ((Lex.upd_here (hW.2 11 (by kernel_rfl)) _ _ rfl).rd HFW.out)
        go_simp
        try with_reducible rfl
      simp only [Act.put, List.setIfInBounds_toArray, List.set_cons_zero, List.set_cons_succ]
      repeat (first | (refine Lex.lex_skip (by rfl) ?_; simp only [Act.put, List.setIfInBounds_toArray, List.set_cons_zero, List.set_cons_succ]) | (refine Lex.lex_still (by rfl) (by rfl) ?_; apply Exists.intro; refine ⟨fun W hW => ?_, ?_⟩; (have hE := hW.1; have hE2 := Base.Ext.trans (Base.Ext.drew (Base.Ext.refl _)) hW.1; clear hW; go_simp; try with_reducible rfl); simp only [Act.put, List.setIfInBounds_toArray, List.set_cons_zero, List.set_cons_succ]))
      refine Lex.lex_loose (by rfl) (by rfl) (fun W hW => ?_) ?_
      · have hE := drew_ext hW.1
        go_simp
        refine (HRF.out _ hE).mono ?_
        rintro e w10 ⟨A11, c11, rfl, ho10, he10⟩
        exact ⟨_, rfl, ⟨A11, c11, rfl, ho10.cap.1⟩, he10, Lex.row_mk (ho10.mono fun i _ hi => Nat.le_trans hE.size hi)⟩
      rintro v ⟨A11, c11, rfl, -⟩
      simp only [Act.put, List.setIfInBounds_toArray, List.set_cons_zero, List.set_cons_succ]
      refine Lex.lex_still (by rfl) (by rfl) ?_; apply Exists.intro; refine ⟨fun W hW => ?_, ?_⟩
      · have q := run_string (P := Try.prog) 22 9 5 c11 Try.underlying22 Try.underlying5 Try.underlying9 ((Lex.upd_here (hW.2 15 (by kernel_rfl)) _ _ rfl).rd HFW.out)
        go_simp
        try with_reducible rfl
      simp only [Act.put, List.setIfInBounds_toArray, List.set_cons_zero, List.set_cons_succ]
      repeat (first | (refine Lex.lex_skip (by rfl) ?_; simp only [Act.put, List.setIfInBounds_toArray, List.set_cons_zero, List.set_cons_succ]) | (refine Lex.lex_still (by rfl) (by rfl) ?_; apply Exists.intro; refine ⟨fun W hW => ?_, ?_⟩; (have hE := hW.1; have hE2 := Base.Ext.trans (Base.Ext.drew (Base.Ext.refl _)) hW.1; clear hW; go_simp; try with_reducible rfl); simp only [Act.put, List.setIfInBounds_toArray, List.set_cons_zero, List.set_cons_succ]))
      refine Lex.lex_loose (by rfl) (by rfl) (fun W hW => ?_) ?_
      · go_simp
        refine (awake_calls _).mono ?_
        rintro e w10 ⟨rfl, he10⟩
        exact ⟨_, rfl, rfl, he10, trivial⟩
      rintro v rfl
      simp only [Act.put, List.setIfInBounds_toArray, List.set_cons_zero, List.set_cons_succ]
      repeat (first | (refine Lex.lex_skip (by rfl) ?_; simp only [Act.put, List.setIfInBounds_toArray, List.set_cons_zero, List.set_cons_succ]) | (refine Lex.lex_still (by rfl) (by rfl) ?_; apply Exists.intro; refine ⟨fun W hW => ?_, ?_⟩; (have hE := hW.1; have hE2 := Base.Ext.trans (Base.Ext.drew (Base.Ext.refl _)) hW.1; clear hW; go_simp; try with_reducible rfl); simp only [Act.put, List.setIfInBounds_toArray, List.set_cons_zero, List.set_cons_succ]))
      refine Lex.lex_nil (fun W hW => ?_)
      have hX := he12.trans (drew_ext hW.1)
      clear hW
      go_wp2_with fail
      go_ret
      exact ⟨rfl, hX⟩
end Go.Proofs.Ytfhgjopoohfhjaa.DiaryRecordsW
