import Derived.Test.YtfhgjopoohfhjaaDiary
import Derived.Lib.SlBytesConst
namespace Go.Proofs.Ytfhgjopoohfhjaa.DiaryAwake
open Go.RowKit Base Step Vec Diary
open DiaryP (records frame)
theorem rec0 : records [] = ([], 0) := by decide +kernel
theorem torn1 : TapeP.kept 3 21 = 3 := by decide
theorem rec1 : records (TapeP.crash (([] ++ frame 1 [97]) ++ frame 2 [98]) 21 3 0) = ([[97]], 21) := by decide +kernel
theorem lit8 (w : World) (b : Int) (e : TypeId) (f : Nat × Nat) (h0 : 0 ≤ b) (h1 : b < 256) : Rd (w.alloc (.cells #[.int .u8 b] e f)) .u8 (some ⟨w.heap.size, 0, none⟩) 1 [b] :=
  rd_new w .u8 [b] #[.int .u8 b] e f rfl (by simp) (by intro x hx; rw [List.mem_singleton.1 hx]; exact u8_wf h0 h1)
theorem off_new {w : World} {S : Nat → Prop} (h : ∀ i, S i → i < w.heap.size) (n : Nat) : Off S (some ⟨w.heap.size, 0, none⟩) n := fun _ ad ha hs => by
  cases ha
  have h2 : w.heap.size < w.heap.size := h _ hs
  omega
set_option maxRecDepth 100000 in
set_option maxHeartbeats 2000000 in
theorem awake_calls (w : World) : Calls Try.prog 15 #[] w fun e w' => e = .returned (.bool true) ∧ Ext w w' := by
  have kc := fun (w : World) (C : Array Value) (n c : Nat) => Lib.run_convert_bytes_const (P := Try.prog) w 22 5 C n c Try.underlying22 Try.underlying5
  have R0 := Lib.hid rec0
  have R1 := Lib.hid rec1
  have T1 := Lib.hid torn1
  go_enter Try.func15, Try.ntmps15
  go_wp2_with fail
  refine (Tape.new_calls 100 _ (by decide)).mono ?_
  rintro e w1 ⟨rfl, he1, ht1⟩
  have hm : max (100 : Int) 0 = 100 := by decide
  rw [hm] at ht1
  clear hm
  go_wp2_with fail
  refine (open_calls _ _ _ _ _ _ ht1 (by simp)).mono ?_
  rintro e w2 ⟨g, St, Sd, rfl, hb2, hc2, hg2, hn2⟩
  rw [R0.out] at hb2
  have hx2 : Ext w w2 := he1.chg hc2 fun i hi => by rw [hi]; exact Nat.le_refl _
  have hfr2 : Fresh w (Or2 St Sd) := fun i hi => by
    rcases hi with hi | hi
    · rcases hg2 i hi with h | h
      · rw [h]; exact Nat.le_refl _
      · exact Nat.le_trans he1.size h
    · exact Nat.le_trans he1.size (hn2 i hi)
  have HX2 := Lib.hid hx2
  have HF2 := Lib.hid hfr2
  clear hc2 hg2 hn2 hx2 hfr2 ht1 he1
  generalize w.heap.size = gt at *
  replace hb2 : Both w2 St Sd gt g [] 0 100 [] 0 := hb2
  go_wp2_with fail
  have hx3 := Ext.new w2 (.cells #[.int .u8 97] 5 (1, 2))
  refine (write_calls St Sd gt g _ _ _ _ _ _ (hb2.ext hx3) _ 1 1 [97] (lit8 w2 97 _ _ (by omega) (by omega)) (off_new hb2.t.lt 1) (by omega) (by simp) (by simp) (by simp)).mono ?_
  rintro e w3 ⟨rfl, St3, Sd3, hb3, hs3⟩
  have HX3 := Lib.hid (fresh_step (HX2.out.trans hx3) HF2.out hs3)
  replace hb3 : Both w3 St3 Sd3 gt g ([] ++ frame 1 [97]) 0 100 [[97]] 0 := hb3
  clear hs3 hb2 hx3 HX2 HF2
  go_wp2_with fail
  refine (sync_calls St3 Sd3 gt g _ _ _ _ _ _ hb3).mono ?_
  rintro e w4 ⟨rfl, hb4, hc4⟩
  have hl4 : ([] ++ frame 1 [97] : List Int).length = 21 := by rw [List.nil_append, DiaryP.frame_length]; rfl
  rw [hl4] at hb4
  have HX4 := Lib.hid (HX3.out.1.chg hc4 HX3.out.2)
  clear hc4 hb3 hl4
  replace hb4 : Both w4 St3 Sd3 gt g ([] ++ frame 1 [97]) 21 100 [[97]] 1 := hb4
  have hl4 : ([] ++ frame 1 [97] : List Int).length = 21 := by rw [List.nil_append, DiaryP.frame_length]; rfl
  have HL4 := Lib.hid hl4
  clear hl4
  go_wp2_with fail
  have hx5 := Ext.new w4 (.cells #[.int .u8 98] 5 (1, 2))
  refine (write_calls St3 Sd3 gt g _ _ _ _ _ _ (hb4.ext hx5) _ 1 1 [98] (lit8 w4 98 _ _ (by omega) (by omega)) (off_new hb4.t.lt 1) (by omega) (by rw [HL4.out]; omega) (by simp) (by rw [HL4.out]; omega)).mono ?_
  rintro e w5 ⟨rfl, St5, Sd5, hb5, hs5⟩
  have HX5 := Lib.hid (fresh_step (HX4.out.trans hx5) HX3.out.2 hs5)
  replace hb5 : Both w5 St5 Sd5 gt g (([] ++ frame 1 [97]) ++ frame 2 [98]) 21 100 [[97], [98]] 1 := hb5
  have HL5 : Hid ((([] ++ frame 1 [97]) ++ frame 2 [98] : List Int).length = 42) := Lib.hid (by rw [List.length_append, HL4.out, DiaryP.frame_length]; rfl)
  clear hs5 hb4 hx5
  go_wp2_with fail
  refine (Tape.crash_calls St5 gt _ 21 100 3 0 _ hb5.t (by decide) (by decide) (by rw [HL5.out]; omega)).mono ?_
  rintro e w6 ⟨rfl, S6, ht6, hs6⟩
  have HX6 := Lib.hid (fresh_step HX5.out.1 (fun i hi => HX5.out.2 i (.inl hi)) hs6)
  have HC : Hid ((TapeP.crash (([] ++ frame 1 [97]) ++ frame 2 [98]) 21 3 0).length = 24) := Lib.hid (by
    rw [TapeP.crash_length _ _ _ _ (by rw [HL5.out]; omega), HL5.out, T1.out])
  generalize (((([] ++ frame 1 [97]) ++ frame 2 [98] : List Int).length - 21 : Nat) : Int) - _ = lost at *
  clear hs6 hb5
  go_wp2_with fail
  refine (open_calls _ _ _ _ _ _ ht6 (by rw [HC.out]; omega)).mono ?_
  rintro e w7 ⟨g7, S7, Sd7, rfl, hb7, hc7, hg7, hn7⟩
  rw [R1.out] at hb7
  have HX7 := Lib.hid (HX6.out.1.chg hc7 HX6.out.2)
  clear hc7 hg7 hn7 ht6
  replace hb7 := hb7.d
  go_wp2_with fail
  refine (len_calls _ _ _ _ _ _ hb7).mono ?_
  rintro e w8 ⟨rfl, he8⟩
  have HX8 := Lib.hid (HX7.out.trans he8)
  clear he8 hb7
  go_wp2_with fail
  go_ret
  exact ⟨rfl, HX8.out⟩
end Go.Proofs.Ytfhgjopoohfhjaa.DiaryAwake
