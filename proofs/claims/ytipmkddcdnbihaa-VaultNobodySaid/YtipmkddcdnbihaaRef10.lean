import Derived.Test.YtipmkddcdnbihaaRef01
import Derived.Test.YtipmkddcdnbihaaSealOpen
namespace Go.Proofs.Ytipmkddcdnbihaa.Ref10
open Go.RowKit Base Ref01

set_option maxHeartbeats 400000 in
set_option maxRecDepth 100000 in
theorem frame_calls (kind : Int) (A : Option Addr) (n c : Nat) (xs : List Int) (w : World) (hk0 : 0 ≤ kind) (hk1 : kind < 65536) (hr : Rd w .u8 A n xs) (hn : n ≤ 65536) :
    Calls Try.prog 237 #[.int .u16 kind, .slice A n c] w fun e w' => ∃ A' c', e = .returned (.slice A' (12 + n) c') ∧ Own w' (fun i => w.heap.size ≤ i) 5 1 (.slice A' (12 + n) c') (12 + n) (nums .u8 (Frm.frame kind xs)) ∧ Below w.heap.size w w' := by
  have HR := Lib.hid hr
  have HL := Lib.hid hr.len
  clear hr
  go_enter Try.func237, Try.ntmps237
  go_wp2_with fail
  refine (num_calls 53021 2 _ (by omega) (by omega) (by omega) (by omega)).mono ?_
  rintro e w1 ⟨A1, c1, rfl, ho1, hb1⟩
  have HB1 := Lib.hid hb1
  have HR1 := Lib.hid (ho1.rd fun x hx => by have := Le.le_u8 _ _ x hx; exact u8_wf this.1 this.2)
  clear ho1 hb1
  go_wp2_with fail
  refine (num_calls kind 2 _ (by omega) (by omega) (by omega) (by omega)).mono ?_
  rintro e w2 ⟨A2, c2, rfl, ho2, hb2⟩
  have HB2 := Lib.hid (HB1.out.trans (hb2.mono HB1.out.size))
  have HR1 := Lib.hid (HR1.out.below hb2)
  have HR2 := Lib.hid (ho2.rd fun x hx => by have := Le.le_u8 _ _ x hx; exact u8_wf this.1 this.2)
  clear ho2 hb2
  go_wp2_with fail
  refine (num_calls n 4 _ (by omega) (by omega) (by omega) (by omega)).mono ?_
  rintro e w3 ⟨A3, c3, rfl, ho3, hb3⟩
  have HB3 := Lib.hid (HB2.out.trans (hb3.mono HB2.out.size))
  have HR1 := Lib.hid (HR1.out.below hb3)
  have HR2 := Lib.hid (HR2.out.below hb3)
  have HR3 := Lib.hid (ho3.rd fun x hx => by have := Le.le_u8 _ _ x hx; exact u8_wf this.1 this.2)
  clear ho3 hb3
  go_wp2_with fail
  have hfl : flat [(A1, 2, c1, Le.le 2 53021), (A2, 2, c2, Le.le 2 kind), (A3, 4, c3, Le.le 4 n)] = Frm.head kind n := by simp [flat, Frm.head]
  refine (join_calls _ 3 3 [(A1, 2, c1, Le.le 2 53021), (A2, 2, c2, Le.le 2 kind), (A3, 4, c3, Le.le 4 n)] _ (rdrows_new w3 _ [(A1, 2, c1, Le.le 2 53021), (A2, 2, c2, Le.le 2 kind), (A3, 4, c3, Le.le 4 n)] _ rfl (by
    intro r hr
    simp only [List.mem_cons, List.not_mem_nil, or_false] at hr
    rcases hr with rfl | rfl | rfl
    · exact HR1.out
    · exact HR2.out
    · exact HR3.out)) (by omega) (by rw [hfl, Frm.head_length]; omega)).mono ?_
  rw [hfl, Frm.head_length]
  rintro e w4 ⟨A4, c4, rfl, ho4, hb4⟩
  have HB4 := Lib.hid ((HB3.out.trans ((below_new w3 (.cells #[.slice A1 2 c1, .slice A2 2 c2, .slice A3 4 c3] 55)).mono HB3.out.size)).trans (hb4.mono (by have := HB3.out.size; simp; omega)))
  have HR4 := Lib.hid (ho4.rd fun x hx => by have := Frm.head_u8 _ _ x hx; exact u8_wf this.1 this.2)
  clear ho4 hb4 hfl HR1 HR2 HR3
  have HR4a := Lib.hid (HR4.out.below (below_new _ (.cells #[] 5)))
  have HN4 := Lib.hid HB4.out.size
  go_wp2_with (at_builtin; refine wpList_app _ rfl (.tmp 17) (.tmp 18) 55 rfl (fun i => w4.heap.size ≤ i) 5 .u8 1 Try.underlying55 Pack.info_u8 (by decide) (.slice (some ⟨w4.heap.size, 0, none⟩) 0 0) 0 [] rfl ?c1 A4 8 c4 (Frm.head kind n) rfl HR4a.out ?c2 ?c3 ?_)
  case c1 => exact ⟨World.ownsRow_lit w4 #[] 0 (Nat.zero_le _) (by simp only [maxLen]; omega) rfl, by simp [Value.ownBlock]⟩
  case c2 => omega
  case c3 => intro i hi; simp at hi; omega
  intro A5 c5 w5 ho5 hc5
  try simp only [Nat.zero_add, List.nil_append] at ho5
  have hb5 : Below w4.heap.size w4 w5 := (((Chg.refl _ _).alloc _).step hc5 fun i hi h => by simp [Value.ownBlock] at h; omega).below
  have HO5 := Lib.hid ho5
  have HB5 := Lib.hid (HB4.out.trans (hb5.mono HB4.out.size))
  have HS5 := Lib.hid hb5.size
  have HR5 := Lib.hid (HR.out.below HB5.out)
  have HB45 := Lib.hid hb5
  clear ho5 hc5 hb5 HR4a
  go_wp2_with (at_builtin; refine wpList_app _ rfl (.tmp 19) (.tmp 20) 55 rfl (fun i => w4.heap.size ≤ i) 5 .u8 1 Try.underlying55 Pack.info_u8 (by decide) (.slice A5 8 c5) 8 (Frm.head kind n) rfl HO5.out A n c xs rfl HR5.out ?c2 ?c3 ?_)
  case c2 => omega
  case c3 => exact fun i hi => Nat.le_trans HS5.out hi
  intro A6 c6 w6 ho6 hc6
  have hb6 : Chg (fun i => w4.heap.size ≤ i) w5 w6 := hc6.mono fun i _ h => HO5.out.foot i h
  have HB6 := Lib.hid ((Below.chg HB5.out).step hb6 fun i _ h => Nat.le_trans HN4.out h).below
  have HR4 := Lib.hid (HR4.out.below ((Below.chg HB45.out).trans hb6).below)
  have HR6 := Lib.hid (HR.out.below HB6.out)
  have HR7 := Lib.hid (ho6.rd (wf_append (fun x hx => by have := Frm.head_u8 _ _ x hx; exact u8_wf this.1 this.2) HR.out.wf))
  clear ho6 hc6 hb6
  go_wp2_with fail
  refine (Seal.refsum_calls _ _ _ _ _ HR7.out).mono ?_
  rintro e w' ⟨rfl, rfl⟩
  have hs := Crc.sum_u32 (Frm.head kind n ++ xs)
  have hs0 := hs.1
  have hs1 := hs.2
  clear hs
  go_wp2_with fail
  refine (num_calls (Crc.sum (Frm.head kind n ++ xs)) 4 _ (by omega) (by omega) (by omega) (by omega)).mono ?_
  rintro e w7 ⟨A7, c7, rfl, ho7, hb7⟩
  have HB7 := Lib.hid (HB6.out.trans (hb7.mono HB6.out.size))
  have HR4 := Lib.hid (HR4.out.below hb7)
  have HR6 := Lib.hid (HR6.out.below hb7)
  have HR8 := Lib.hid (ho7.rd fun x hx => by have := Le.le_u8 _ _ x hx; exact u8_wf this.1 this.2)
  clear ho7 hb7
  go_wp2_with fail
  have hfl : flat [(A4, 8, c4, Frm.head kind n), (A7, 4, c7, Le.le 4 (Crc.sum (Frm.head kind n ++ xs))), (A, n, c, xs)] = Frm.frame kind xs := by simp [flat, Frm.frame, HL.out]
  refine (join_calls _ 3 3 [(A4, 8, c4, Frm.head kind n), (A7, 4, c7, Le.le 4 (Crc.sum (Frm.head kind n ++ xs))), (A, n, c, xs)] _ (rdrows_new w7 _ [(A4, 8, c4, Frm.head kind n), (A7, 4, c7, Le.le 4 (Crc.sum (Frm.head kind n ++ xs))), (A, n, c, xs)] _ rfl (by
    intro r hr
    simp only [List.mem_cons, List.not_mem_nil, or_false] at hr
    rcases hr with rfl | rfl | rfl
    · exact HR4.out
    · exact HR8.out
    · exact HR6.out)) (by omega) (by rw [hfl, Frm.frame_length, HL.out]; omega)).mono ?_
  rw [hfl, Frm.frame_length, HL.out]
  rintro e w8 ⟨A8, c8, rfl, ho8, hb8⟩
  have hsz8 : w.heap.size ≤ (w7.alloc (.cells #[.slice A4 8 c4, .slice A7 4 c7, .slice A n c] 55)).heap.size := by have := HB7.out.size; simp; omega
  have HB8 := Lib.hid ((HB7.out.trans ((below_new w7 (.cells #[.slice A4 8 c4, .slice A7 4 c7, .slice A n c] 55)).mono HB7.out.size)).trans (hb8.mono hsz8))
  have HO8 := Lib.hid (ho8.mono (S' := fun i => w.heap.size ≤ i) fun i _ h => Nat.le_trans hsz8 h)
  clear ho8 hb8 hfl HR4 HR6 HR8
  go_wp2_with fail
  go_ret
  exact ⟨A8, c8, rfl, HO8.out, HB8.out⟩
end Go.Proofs.Ytipmkddcdnbihaa.Ref10
