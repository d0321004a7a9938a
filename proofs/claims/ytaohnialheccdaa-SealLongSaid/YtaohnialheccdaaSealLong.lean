import Derived.Test.YtaohnialheccdaaSealFrame
namespace Go.Proofs.Ytaohnialheccdaa.SealLongW
open Go.RowKit Base

set_option maxHeartbeats 400000 in
set_option maxRecDepth 100000 in
theorem walk (m : Int) (w : World) (hw : (Lit.int .u8 m).wf = true) :
    Calls Try.prog 6 #[.int .u8 m] w fun e w' => e = .returned (.bool true) ∧ Below w.heap.size w w' := by
  obtain ⟨h0, h1⟩ := wf_u8 hw
  obtain ⟨m, rfl⟩ := Int.eq_ofNat_of_zero_le h0
  have HK1 := Lib.hid (run_make_num (P := Try.prog) 22 5 .u8 1 Try.underlying22 Pack.info_u8 (by decide) 65536 (by decide))
  have HK2 := Lib.hid (run_make_num (P := Try.prog) 22 5 .u8 1 Try.underlying22 Pack.info_u8 (by decide) (65537 + m) (by omega))
  have hk1 : ∀ W, (Instr.makeSlice 22 (.int .i64 65536) (.int .i64 65536)).run Try.prog W = .ok (.slice (some ⟨W.heap.size, 0, none⟩) 65536 65536) (W.alloc (.cells (madeCells #[.int .u8 0] 65536) 5)) := HK1.out
  have hk2 : ∀ W, (Instr.makeSlice 22 (.int .i64 (65537 + (m : Int))) (.int .i64 (65537 + (m : Int)))).run Try.prog W = .ok (.slice (some ⟨W.heap.size, 0, none⟩) (65537 + m) (65537 + m)) (W.alloc (.cells (madeCells #[.int .u8 0] (65537 + m)) 5)) := fun W => by
    have := HK2.out W
    rwa [show ((65537 + m : Nat) : Int) = 65537 + (m : Int) from by omega] at this
  clear hw HK1 HK2
  go_enter Try.func6, Try.ntmps6
  go_wp2_with fail
  refine (SealFrame.frame_calls 1 _ _ _ _ _ (by omega) (by omega) (rd_made w .u8 (by decide) _ _ (by omega)) (by omega)).mono ?_
  rintro e w1 ⟨A1, c1, rfl, _, hb1⟩
  have HB1 := Lib.hid ((below_new _ _).trans (hb1.mono (by simp)))
  clear hb1
  go_wp2_with fail
  refine (SealFrame.frame_none 1 _ _ _ _ (by omega) (by omega)).mono ?_
  rintro e w2 ⟨rfl, rfl⟩
  have HB2 := Lib.hid (HB1.out.trans ((below_new w1 (.cells (madeCells #[.int .u8 0] (65537 + m)) 5)).mono HB1.out.size))
  go_wp2_with fail
  refine (Seal.awake_calls _).mono ?_
  rintro e w3 ⟨rfl, hb3⟩
  have HB3 := Lib.hid (HB2.out.trans (hb3.mono HB2.out.size))
  clear hb3
  go_wp2_with fail
  go_ret
  exact ⟨rfl, HB3.out⟩
end Go.Proofs.Ytaohnialheccdaa.SealLongW
