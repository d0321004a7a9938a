import Derived.Test.YtaohnialheccdaaDisk
import Derived.Lib.SlBytesConst
namespace Go.Proofs.Ytaohnialheccdaa.Plat
open Go.RowKit Base Step Vec Disk
open DiskP (readC over puts put1 cutN torn crash)
set_option maxRecDepth 100000 in
set_option maxHeartbeats 1000000 in
theorem awake_calls (w : World) : Calls Try.prog 47 #[] w fun e w' => e = .returned (.bool true) ∧ Ext w w' := by
  have kc := fun (w : World) (C : Array Value) (n c : Nat) => Lib.run_convert_bytes_const (P := Try.prog) w 22 5 C n c Try.underlying22 Try.underlying5
  go_enter Try.func47, Try.ntmps47
  go_wp2_with fail
  refine (new_calls 2 9 _ (by omega) (by omega) (by omega) (by omega)).mono ?_
  rintro e w1 ⟨g, rfl, he1, hd1⟩
  have HX1 := Lib.hid he1
  clear he1
  go_wp2_with fail
  have hx2 := (Ext.refl w1).alloc (.cells #[.int .u8 97, .int .u8 98, .int .u8 99] 5 (3, 4))
  have hr2 := rd_new w1 .u8 [97, 98, 99] #[.int .u8 97, .int .u8 98, .int .u8 99] 5 (3, 4) rfl (by simp) (by intro x hx; simp at hx; rcases hx with rfl | rfl | rfl <;> exact u8_wf (by omega) (by omega))
  refine (write_calls _ _ _ _ _ _ _ (hd1.ext hx2) 0 (by simp) _ _ _ [97, 98, 99] hr2 (by simp) (by simp)).mono ?_
  rintro e w3 ⟨rfl, hd3, hc3⟩
  have HX3 := Lib.hid ((HX1.out.trans hx2).chg hc3 (fun i hi => hi.elim (fun h => h.elim) fun h => h.1))
  have hf3 : Fresh w (Plus (Plus (fun _ => False) w w1) (w1.alloc (.cells #[.int .u8 97, .int .u8 98, .int .u8 99] 5 (3, 4))) w3) := Plus.fresh (fun i hi => hi.elim (fun h => h.elim) fun h => h.1) (HX1.out.trans hx2).size
  generalize Plus (Plus (fun _ => False) w w1) (w1.alloc (.cells #[.int .u8 97, .int .u8 98, .int .u8 99] 5 (3, 4))) w3 = S3 at *
  clear hd1 hx2 hr2 hc3 HX1
  go_wp2_with fail
  refine (crash_calls _ _ _ _ _ _ _ hd3 0 2 (by decide) (by decide) (by simp)).mono ?_
  rintro e w4 ⟨rfl, hd4, hc4⟩
  have HX4 := Lib.hid (HX3.out.chg hc4 hf3)
  clear hc4 hd3 hf3
  have e1 : ((([] : List (Int × List Int)) ++ [(((0 : Nat) : Int), [97, 98, 99])]).length : Int) - cutN 0 ((([] : List (Int × List Int)) ++ [(((0 : Nat) : Int), [97, 98, 99])]).length) = 1 := by decide
  have e2 : crash (List.replicate 2 []) (([] : List (Int × List Int)) ++ [(((0 : Nat) : Int), [97, 98, 99])]) 0 2 = [[97, 98], []] := by decide
  rw [e1]
  rw [e2] at hd4
  clear e1 e2
  go_wp2_with fail
  refine (read_calls _ _ _ _ _ _ _ hd4 0 (by simp) (by simp)).mono ?_
  rintro e w5 ⟨he5, A5, n5, c5, rfl, ho5, -⟩
  have HX5 := Lib.hid (HX4.out.trans he5)
  have e3 : readC [[97, 98], []] [] 0 = [97, 98] := by decide
  rw [e3] at ho5
  have hn5 : n5 = 2 := by have := ho5.row.1; simpa [nums] using this.symm
  subst hn5
  have hr5 := ho5.rd (k := .u8) (xs := [97, 98]) (by intro x hx; simp at hx; rcases hx with rfl | rfl <;> exact u8_wf (by omega) (by omega))
  have hs5 := run_string (P := Try.prog) 22 9 5 c5 Try.underlying22 Try.underlying5 Try.underlying9 hr5
  clear ho5 hr5 he5 e3
  go_wp2_with fail
  go_ret
  refine ⟨?_, HX5.out⟩
  show Ending.returned (.bool ((strOfNums [97, 98]).toList == [97, 98])) = _
  exact ret_bool (by first | kernel_rfl | decide +kernel | (simp [strOfNums]))
end Go.Proofs.Ytaohnialheccdaa.Plat
