import Derived.Test.YtipmkddcdnbihaaProg
import Derived.Test.YtipmkddcdnbihaaCrc
import Derived.Test.YtipmkddcdnbihaaBase
import Derived.WalkKit
import Derived.KernelRfl
import Derived.Lib.Hide
import Derived.Lib.SlBytesConst
namespace Go.Proofs.Ytipmkddcdnbihaa.Seal
open Go.RowKit Base

set_option maxHeartbeats 400000 in
theorem go_calls (s : Int) (A : Option Addr) (n cap : Nat) (zs : List Int) (w : World) (hs : Crc.U32 s) (hr : Rd w .u8 A n zs) :
    Calls Try.prog 224 #[.int .u32 s, .slice A n cap] w fun e w' => e = .returned (.int .u32 (Crc.sumOn s zs)) ∧ w = w' := by
  have H0 := Lib.hid (Crc.not_u32 hs)
  have hm := hr.room
  have HR := Lib.hid hr
  have HN := Lib.hid hr.len
  have HS := Lib.hid hs
  clear hr hs
  go_enter Try.func224, Try.ntmps224
  go_wp2
  rw [H0.out]
  go_loop [5, 12] (fun t i => ∃ k : Nat, k ≤ n ∧ i = .int .i64 k ∧ t = .int .u32 (Crc.run (4294967295 - s) (zs.take k))) (fun _ i => n - (intOf i).toNat)
  case atStart => exact ⟨0, Nat.zero_le _, rfl, rfl⟩
  case round =>
    obtain ⟨k, hk, rfl, rfl⟩ := hrel
    have hu : Crc.U32 (Crc.run (4294967295 - s) (zs.take k)) := Crc.run_u32 _ (by have := HS.out; unfold Crc.U32 at *; omega)
    have HU := Lib.hid hu
    clear hu
    by_cases hlt : k < n
    · obtain ⟨ad, rfl, hcell⟩ := HR.out.at_ hlt
      obtain ⟨hz0, hz1⟩ := wf_u8 (HR.out.wfAt hlt)
      generalize hg : zs.getD k 0 = c at *
      have HG := Lib.hid hg
      clear hg
      go_wp2
      have hx := Crc.xor_u32 (Crc.run (4294967295 - s) (List.take k zs)) c
      have hX : Crc.byte (Crc.run (4294967295 - s) (List.take k zs)) c = Crc.bitsN 8 (Go.bits .xor .u32 (Crc.run (4294967295 - s) (List.take k zs)) c) := rfl
      rw [← Crc.run_snoc, ← take_next HR.out.len hlt HG.out] at hX
      have HX := Lib.hid hX
      clear hX
      generalize Go.bits .xor .u32 (Crc.run (4294967295 - s) (List.take k zs)) c = x at *
      have HXU := Lib.hid hx
      clear hx
      go_loop [5, 20] (fun t i => ∃ j : Nat, j ≤ 8 ∧ i = .int .i64 j ∧ t = .int .u32 (Crc.bitsN j x)) (fun _ i => 8 - (intOf i).toNat)
      case atStart => exact ⟨0, Nat.zero_le _, rfl, rfl⟩
      case round =>
        obtain ⟨j, hj, rfl, rfl⟩ := hrel
        have hju := Crc.bitsN_u32 j HXU.out
        have HJU := Lib.hid hju
        have hsn := Lib.hid (Crc.bitsN_snoc j x)
        have hj0 : 0 ≤ Crc.bitsN j x := hju.1
        have hj1 : Crc.bitsN j x < 4294967296 := hju.2
        clear hju
        by_cases hlj : j < 8
        · have ha := Crc.and_one HJU.out
          by_cases ho : Crc.bitsN j x % 2 = 1
          · have hb : (Go.bits .and .u32 (Crc.bitsN j x) 1 == 1) = true := by rw [ha, ho]; rfl
            have HS1 := Lib.hid (hsn.out.trans (Crc.bit_odd ho))
            clear ha ho
            go_wp2
            go_round
            case rel => exact ⟨j + 1, by omega, by go_num, by rw [HS1.out]⟩
            case measure => simp [intOf]; omega
          · have hb : (Go.bits .and .u32 (Crc.bitsN j x) 1 == 1) = false := by rw [ha]; exact beq_eq_false_iff_ne.2 ho
            have HS1 := Lib.hid (hsn.out.trans (Crc.bit_even ho))
            clear ha ho
            go_wp2
            go_round
            case rel => exact ⟨j + 1, by omega, by go_num, by rw [HS1.out]⟩
            case measure => simp [intOf]; omega
        · obtain rfl : j = 8 := by omega
          go_wp2
          go_round
          case rel => exact ⟨k + 1, by omega, by go_num, by rw [HX.out]⟩
          case measure => simp [intOf]; omega
    · obtain rfl : k = n := by omega
      have HT : Hid (zs.take k = zs) := Lib.hid (List.take_of_length_le (by rw [HN.out]; omega))
      have H1 := Lib.hid (Crc.not_u32 HU.out)
      go_wp2
      rw [H1.out, HT.out]
      go_ret
      exact ⟨rfl, rfl⟩

theorem sum_calls (A : Option Addr) (n cap : Nat) (zs : List Int) (w : World) (hr : Rd w .u8 A n zs) :
    Calls Try.prog 225 #[.slice A n cap] w fun e w' => e = .returned (.int .u32 (Crc.sum zs)) ∧ w = w' := by
  have HR := Lib.hid hr
  clear hr
  go_enter Try.func225, Try.ntmps225
  go_wp2_with (go_at_call 224; refine (go_calls _ _ _ _ zs _ (by unfold Crc.U32; omega) HR.out).mono ?_; rintro e w' ⟨rfl, rfl⟩)
  go_ret
  exact ⟨rfl, rfl⟩

set_option maxHeartbeats 400000 in
theorem refsum_calls (A : Option Addr) (n cap : Nat) (zs : List Int) (w : World) (hr : Rd w .u8 A n zs) :
    Calls Try.prog 235 #[.slice A n cap] w fun e w' => e = .returned (.int .u32 (Crc.sum zs)) ∧ w = w' := by
  have hm := hr.room
  have HR := Lib.hid hr
  have HN := Lib.hid hr.len
  clear hr
  go_enter Try.func235, Try.ntmps235
  go_wp2
  go_loop [3, 4] (fun t i => ∃ k : Nat, k ≤ n ∧ i = .int .i64 k ∧ t = .int .u32 (Crc.run 4294967295 (zs.take k))) (fun _ i => n - (intOf i).toNat)
  case atStart => exact ⟨0, Nat.zero_le _, rfl, rfl⟩
  case round =>
    obtain ⟨k, hk, rfl, rfl⟩ := hrel
    have hu : Crc.U32 (Crc.run 4294967295 (zs.take k)) := Crc.run_u32 _ (by unfold Crc.U32 at *; omega)
    have HU := Lib.hid hu
    clear hu
    by_cases hlt : k < n
    · obtain ⟨ad, rfl, hcell⟩ := HR.out.at_ hlt
      obtain ⟨hz0, hz1⟩ := wf_u8 (HR.out.wfAt hlt)
      generalize hg : zs.getD k 0 = c at *
      have HG := Lib.hid hg
      clear hg
      go_wp2
      have hx := Crc.xor_u32 (Crc.run 4294967295 (List.take k zs)) c
      have hX : Crc.byte (Crc.run 4294967295 (List.take k zs)) c = Crc.bitsN 8 (Go.bits .xor .u32 (Crc.run 4294967295 (List.take k zs)) c) := rfl
      rw [← Crc.run_snoc, ← take_next HR.out.len hlt HG.out] at hX
      have HX := Lib.hid hX
      clear hX
      generalize Go.bits .xor .u32 (Crc.run 4294967295 (List.take k zs)) c = x at *
      have HXU := Lib.hid hx
      clear hx
      go_loop [3, 5, 6] (fun t i _ => ∃ j : Nat, j ≤ 8 ∧ i = .int .i64 j ∧ t = .int .u32 (Crc.bitsN j x)) (fun _ i _ => 8 - (intOf i).toNat)
      case atStart => exact ⟨0, Nat.zero_le _, rfl, rfl⟩
      case round =>
        obtain ⟨j, hj, rfl, rfl⟩ := hrel
        have hju := Crc.bitsN_u32 j HXU.out
        have hsn := Lib.hid (Crc.bitsN_snoc j x)
        have hj0 : 0 ≤ Crc.bitsN j x := hju.1
        have hj1 : Crc.bitsN j x < 4294967296 := hju.2
        clear hju
        by_cases hlj : j < 8
        · by_cases ho : Crc.bitsN j x % 2 = 1
          · have hb : (Crc.bitsN j x % 2 == 1) = true := by rw [ho]; rfl
            have HS1 := Lib.hid (hsn.out.trans (Crc.bit_odd ho))
            clear ho
            go_wp2
            go_round
            case rel => exact ⟨j + 1, by omega, by go_num, by rw [HS1.out]⟩
            case measure => simp [intOf]; omega
          · have hb : (Crc.bitsN j x % 2 == 1) = false := beq_eq_false_iff_ne.2 ho
            have HS1 := Lib.hid (hsn.out.trans (Crc.bit_even ho))
            clear ho
            go_wp2
            go_round
            case rel => exact ⟨j + 1, by omega, by go_num, by rw [HS1.out]⟩
            case measure => simp [intOf]; omega
        · obtain rfl : j = 8 := by omega
          go_wp2
          go_round
          case rel => exact ⟨k + 1, by omega, by go_num, by rw [HX.out]⟩
          case measure => simp [intOf]; omega
    · obtain rfl : k = n := by omega
      have HT : Hid (zs.take k = zs) := Lib.hid (List.take_of_length_le (by rw [HN.out]; omega))
      have hu0 := HU.out.1
      have hu1 := HU.out.2
      go_wp2
      rw [HT.out]
      go_ret
      exact ⟨rfl, rfl⟩

end Go.Proofs.Ytipmkddcdnbihaa.Seal
