import Derived.Test.YtipmkddcdnbihaaSeal
import Derived.Test.YtipmkddcdnbihaaPack
import Derived.Test.YtipmkddcdnbihaaFrame
namespace Go.Proofs.Ytipmkddcdnbihaa.SealFrame
open Go.RowKit Base

set_option maxHeartbeats 400000 in
set_option maxRecDepth 100000 in
theorem frame_none (kind : Int) (A : Option Addr) (n c : Nat) (w : World) (hn : 65536 < n) (hm : n ≤ 9223372036854775807) :
    Calls Try.prog 182 #[.int .u16 kind, .slice A n c] w fun e w' => e = .returned (.slice none 0 0) ∧ w = w' := by
  go_enter Try.func182, Try.ntmps182
  go_wp2
  go_ret
  exact ⟨rfl, rfl⟩

set_option maxHeartbeats 400000 in
set_option maxRecDepth 100000 in
theorem frame_calls (kind : Int) (A : Option Addr) (n c : Nat) (xs : List Int) (w : World) (hk0 : 0 ≤ kind) (hk1 : kind < 65536) (hr : Rd w .u8 A n xs) (hn : n ≤ 65536) :
    Calls Try.prog 182 #[.int .u16 kind, .slice A n c] w fun e w' => ∃ A' c', e = .returned (.slice A' (12 + n) c') ∧ Own w' (fun i => w.heap.size ≤ i) 5 1 (.slice A' (12 + n) c') (12 + n) (nums .u8 (Frm.frame kind xs)) ∧ Below w.heap.size w w' := by
  have HR := Lib.hid hr
  clear hr
  go_enter Try.func182, Try.ntmps182
  go_wp2_with fail
  refine (Pack.num_calls (fun i => w.heap.size ≤ i) w.heap.size [] 53021 2 _ (by intro i hi; simp at hi; omega) (Pack.writer_new _ w (Nat.le_refl _)) (by omega) (by omega) (by omega) (by omega) (by simp)).mono ?_
  rintro e w1 ⟨rfl, hw1, hc1⟩
  have HW1 := Lib.hid hw1
  have HC1 := Lib.hid (((Chg.refl _ _).alloc _).trans hc1)
  clear hw1 hc1
  go_wp2_with fail
  refine (Pack.num_calls (fun i => w.heap.size ≤ i) w.heap.size _ kind 2 _ (by intro i hi; exact Nat.le_trans HC1.out.size hi) HW1.out (by omega) (by omega) (by omega) (by omega) (by simp [Le.le_length])).mono ?_
  rintro e w2 ⟨rfl, hw2, hc2⟩
  have HW2 := Lib.hid hw2
  have HC2 := Lib.hid (HC1.out.trans hc2)
  clear hw2 hc2
  go_wp2_with fail
  refine (Pack.num_calls (fun i => w.heap.size ≤ i) w.heap.size _ n 4 _ (by intro i hi; exact Nat.le_trans HC2.out.size hi) HW2.out (by omega) (by omega) (by omega) (by omega) (by simp [Le.le_length])).mono ?_
  rintro e w3 ⟨rfl, hw3, hc3⟩
  have hh : [] ++ Le.le (2 : Int).toNat 53021 ++ Le.le (2 : Int).toNat kind ++ Le.le (4 : Int).toNat n = Frm.head kind n := rfl
  rw [hh] at hw3
  have HW3 := Lib.hid hw3
  have HC3 := Lib.hid (HC2.out.trans hc3)
  clear hw3 hc3 hh
  go_wp2_with fail
  refine (Pack.bytes_calls (fun i => w.heap.size ≤ i) w.heap.size _ _ HW3.out (by rw [Frm.head_length]; omega)).mono ?_
  rintro e w4 ⟨A4, c4, rfl, ho4, hb4⟩
  have HW4 := Lib.hid (HW3.out.below hb4)
  have HC4 := Lib.hid (HC3.out.trans (Below.chg hb4))
  have HR4 := Lib.hid (HR.out.below HC4.out.below)
  have HH4 := Lib.hid (ho4.rd HW3.out.wf)
  clear ho4 hb4
  go_wp2_with fail
  refine (Seal.sum_calls _ _ _ _ _ HH4.out).mono ?_
  rintro e w' ⟨rfl, rfl⟩
  go_wp2_with fail
  refine (Seal.go_calls _ _ _ _ _ _ (Crc.sum_u32 _) HR4.out).mono ?_
  rintro e w' ⟨rfl, rfl⟩
  have hs := Crc.sumOn_u32 (Crc.sum_u32 (Frm.head kind n)) xs
  have hs0 := hs.1
  have hs1 := hs.2
  have hsa : Crc.sumOn (Crc.sum (Frm.head kind n)) xs = Crc.sum (Frm.head kind n ++ xs) := Crc.sumOn_append _ _ _
  rw [hsa] at hs0 hs1 ⊢
  clear hs hsa
  go_wp2_with fail
  refine (Pack.num_calls (fun i => w.heap.size ≤ i) w.heap.size _ (Crc.sum (Frm.head kind n ++ xs)) 4 _ (by intro i hi; exact Nat.le_trans HC4.out.size hi) HW4.out (by omega) (by omega) (by omega) (by omega) (by rw [Frm.head_length]; omega)).mono ?_
  rintro e w5 ⟨rfl, hw5, hc5⟩
  have HW5 := Lib.hid hw5
  have HC5 := Lib.hid (HC4.out.trans hc5)
  have HR5 := Lib.hid (HR.out.below HC5.out.below)
  clear hw5 hc5
  go_wp2_with fail
  refine (Pack.wraw_calls (fun i => w.heap.size ≤ i) w.heap.size _ _ _ _ _ _ (by intro i hi; exact Nat.le_trans HC5.out.size hi) HW5.out HR5.out (by simp [Frm.head_length, Le.le_length]) (by omega)).mono ?_
  rintro e w6 ⟨rfl, hw6, hc6⟩
  have hl := HR.out.len
  have hh : Frm.head kind n ++ Le.le (4 : Int).toNat (Crc.sum (Frm.head kind n ++ xs)) ++ xs = Frm.frame kind xs := by unfold Frm.frame; rw [hl]; rfl
  rw [hh] at hw6
  have hfl : (Frm.frame kind xs).length = 12 + n := by rw [Frm.frame_length, hl]
  have HFL := Lib.hid hfl
  have HW6 := Lib.hid hw6
  have HC6 := Lib.hid (HC5.out.trans hc6)
  clear hw6 hc6 hh hl hfl
  go_wp2_with fail
  refine (Pack.bytes_calls (fun i => w.heap.size ≤ i) w.heap.size _ _ HW6.out (by rw [HFL.out]; omega)).mono ?_
  rintro e w7 ⟨A7, c7, rfl, ho7, hb7⟩
  rw [HFL.out] at ho7 ⊢
  have HO7 := Lib.hid (ho7.mono fun i _ h => Nat.le_trans HC6.out.size h)
  have HB7 := Lib.hid (HC6.out.trans (Below.chg hb7)).below
  clear ho7 hb7
  go_wp2_with fail
  go_ret
  exact ⟨A7, c7, rfl, HO7.out, HB7.out⟩
end Go.Proofs.Ytipmkddcdnbihaa.SealFrame
