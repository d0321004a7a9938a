/- The law's jobs; the chapter's example of queues: walked. -/
import Derived.Test.YtipmkddcdnbihaaUrgI
import Derived.Test.YtipmkddcdnbihaaUrgH
import Derived.Laws.Rows
namespace Go.Proofs.Ytipmkddcdnbihaa.Urg
open Go.RowKit Base Step MapIs Vec
open UrgP
set_option maxRecDepth 100000 in
theorem to_calls (j : Job) (w : World) : Calls Try.prog 16 #[jobA j] w fun e w' => e = .returned (jobA j) ∧ Ext w w' := by
  obtain ⟨o, s, g⟩ := j
  have e0 := Ext.new w (.cells #[.int .u32 o, .int .u16 s, .int .i64 g] 35)
  have hb0 := at_new w (.cells #[.int .u32 o, .int .u16 s, .int .i64 g] 35)
  have hz0 : (w.alloc (.cells #[.int .u32 o, .int .u16 s, .int .i64 g] 35)).heap.size = w.heap.size + 1 := by simp
  go_enter Try.func16, Try.ntmps16
  go_upto_region 1 with fail
  generalize w.alloc (.cells #[.int .u32 o, .int .u16 s, .int .i64 g] 35) = w0 at *
  have e1 := Ext.new w0 (.cells #[.int .u32 0, .int .u16 0, .int .i64 0] 32)
  have hb1 := at_new w0 (.cells #[.int .u32 0, .int .u16 0, .int .i64 0] 32)
  have hb2 := e1.at_ hb0
  rw [hz0] at hb1
  have E1 := Lib.hid (e0.trans e1)
  clear e0 e1 hb0 hz0
  generalize w0.alloc (.cells #[.int .u32 0, .int .u16 0, .int .i64 0] 32) = wa at *
  have c0 : wa.cell? ⟨w.heap.size, 0, none⟩ = some (.int .u32 o) := blk_cell (i := 0) hb2 (Ext.refl _) rfl
  have c1 : wa.cell? ⟨w.heap.size, 1, none⟩ = some (.int .u16 s) := blk_cell (i := 1) hb2 (Ext.refl _) rfl
  have c2 : wa.cell? ⟨w.heap.size, 2, none⟩ = some (.int .i64 g) := blk_cell (i := 2) hb2 (Ext.refl _) rfl
  go_wp2_with (refine RowSt.wpList_put 32 _ _ rfl rfl rfl (w.heap.size + 1) #[.int .u32 o, .int .u16 s, .int .i64 g] rfl rfl 32 _ hb1 (by kernel_rfl) rfl (by simp [Value.oneCell']) ?_; intro w8 hb8 hc8)
  refine bodyPost_ret (v := jobA ⟨o, s, g⟩) (results_cell_row (p := 2) rfl _ _ (w.heap.size + 1) 32 _ (0, 0) _ rfl hb8 Try.underlying32 rfl (by kernel_rfl)) rfl ?_
  exact ⟨rfl, E1.out.chg hc8 fun q k => by have k : q = w.heap.size + 1 := k; omega⟩
theorem ok_of (o s g : Int) (h1 : 0 ≤ o) (h2 : o < 4294967296) (h3 : 0 ≤ s) (h4 : s < 65536) (h5 : -9223372036854775808 ≤ g) (h6 : g ≤ 9223372036854775807) : Ok ⟨o, s, g⟩ := ⟨h1, h2, h3, h4, h5, h6⟩
set_option maxRecDepth 100000 in
set_option maxHeartbeats 2000000 in
theorem awake_calls (w : World) : Calls Try.prog 13 #[] w fun e w' => e = .returned (.bool true) ∧ Ext w w' := by
  go_enter Try.func13, Try.ntmps13
  go_wp2_with fail
  refine (new_calls _).mono ?_
  rintro e w1 ⟨gq, gm, rfl, hq1, he1⟩
  have HF1 := Lib.hid (show Fresh w (Plus (fun _ => False) w w1) from Plus.fresh (fun i hi => hi.elim) (Nat.le_refl _))
  have HQ1 := Lib.hid hq1
  have HE1 := Lib.hid he1
  generalize Plus (fun _ => False) w w1 = S1 at *
  clear hq1 he1
  go_wp2_with fail
  refine (to_calls ⟨0, 1, 5⟩ _).mono ?_
  rintro e w2 ⟨rfl, he2⟩
  have HQ2 := Lib.hid (HQ1.out.ext he2)
  have HE2 := Lib.hid (HE1.out.trans he2)
  clear he2
  go_wp2_with fail
  refine (put_calls S1 gq gm [] ⟨0, 1, 5⟩ w2 HQ2.out heap_nil (by exact ok_of 0 1 5 (by decide) (by decide) (by decide) (by decide) (by decide) (by decide)) (by simp)).mono ?_
  rintro e w3 ⟨rfl, l3, hq3, hh3, hp3, hc3⟩
  have HQ3 := Lib.hid hq3
  have HH3 := Lib.hid hh3
  have HP3 := Lib.hid (show l3.Perm [⟨0, 1, 5⟩] from hp3)
  have HE3 := Lib.hid (HE2.out.chg hc3 HF1.out)
  have HF3 := Lib.hid (Plus.fresh (w' := w3) HF1.out HE2.out.size)
  generalize Plus S1 w2 w3 = S3 at *
  clear hq3 hh3 hp3 hc3
  go_wp2_with fail
  refine (to_calls ⟨0, 2, 3⟩ _).mono ?_
  rintro e w4 ⟨rfl, he4⟩
  have HQ4 := Lib.hid (HQ3.out.ext he4)
  have HE4 := Lib.hid (HE3.out.trans he4)
  clear he4
  go_wp2_with fail
  refine (put_calls S3 gq gm l3 ⟨0, 2, 3⟩ w4 HQ4.out HH3.out (by exact ok_of 0 2 3 (by decide) (by decide) (by decide) (by decide) (by decide) (by decide)) (by have := HP3.out.length_eq; simp at this; omega)).mono ?_
  rintro e w5 ⟨rfl, l5, hq5, hh5, hp5, hc5⟩
  have hp6 : l5.Perm [⟨0, 2, 3⟩, ⟨0, 1, 5⟩] := hp5.trans ((HP3.out.filter _).cons _)
  have HQ5 := Lib.hid hq5
  have HE5 := Lib.hid (HE4.out.chg hc5 HF3.out)
  have hl5 : l5.length = 2 := hp6.length_eq
  have hfirst : at_ l5 0 = ⟨0, 2, 3⟩ := by
    have h1 := at_mem (l := l5) (i := 0) (by omega)
    have h2 := hp6.mem_iff.1 h1
    rcases List.mem_cons.1 h2 with h2 | h2
    · exact h2
    · have h3 : at_ l5 0 = ⟨0, 1, 5⟩ := List.mem_singleton.1 h2
      obtain ⟨i, hi, he⟩ := List.getElem_of_mem (hp6.mem_iff.2 List.mem_cons_self)
      have h4 := hh5.min i hi
      rw [h3, at_eq (by rw [List.getElem?_eq_getElem hi, he])] at h4
      exact absurd h4 (by decide)
  have HFi := Lib.hid hfirst
  have HLn := Lib.hid hl5
  generalize Plus S3 w4 w5 = S5 at *
  clear hq5 hh5 hp5 hc5 hp6 hl5 hfirst
  go_wp2_with fail
  refine (first_calls S5 gq gm l5 w5 HQ5.out (by have := HLn.out; omega)).mono ?_
  rintro e w6 ⟨he6, hr⟩
  have HE6 := Lib.hid (HE5.out.trans he6)
  have e7 := Ext.new w6 (.cells #[.int .u32 0, .int .u16 0, .int .i64 0] 32)
  have hne : l5 ≠ [] := fun k => by have := HLn.out; rw [k] at this; simp at this
  rcases hr with ⟨hl, _⟩ | ⟨_, rfl⟩
  · exact absurd hl hne
  rw [HFi.out]
  clear he6 hne
  go_wp2_with (refine RowSt.wpList_put 32 _ _ rfl rfl rfl w6.heap.size #[.int .u32 0, .int .u16 2, .int .i64 3] rfl rfl 32 _ (at_new _ _) (by kernel_rfl) rfl (by simp [Value.oneCell']) ?_; intro w8 hb8 hc8; have E8 := Lib.hid (e7.chg hc8 (fun q k => by have k : q = w6.heap.size := k; omega)); have c1 := blk_cell (i := 1) hb8 (Ext.refl _) rfl; clear hb8 hc8)
  go_ret
  exact ⟨rfl, HE6.out.trans E8.out⟩
end Go.Proofs.Ytipmkddcdnbihaa.Urg
