import Derived.Test.YtaohnialheccdaaSeal
namespace Go.Proofs.Ytaohnialheccdaa.SealSumsW
open Go.RowKit Base

theorem info_u8 : (Try.prog.info? 5).map (fun i => (i.zero, i.size, i.bytes)) = some (some (.int .u8 0), 1, 1) := by kernel_rfl

set_option maxHeartbeats 400000 in
set_option maxRecDepth 100000 in
theorem walk (A1 : Option Addr) (n1 c1 : Nat) (l1 : List Int) (A2 : Option Addr) (n2 c2 : Nat) (l2 : List Int) (w : World) (h1 : Rd w .u8 A1 n1 l1) (_ : n1 * 1 ≤ 140737488351232) (h2 : Rd w .u8 A2 n2 l2) (_ : n2 * 1 ≤ 140737488351232) :
    Calls Try.prog 3 #[.slice A1 n1 c1, .slice A2 n2 c2] w fun e w' => e = .returned (.bool true) ∧ Below w.heap.size w w' := by
  have H1 := Lib.hid h1
  have H2 := Lib.hid h2
  have hm1 := h1.room
  have hm2 := h2.room
  clear h1 h2
  by_cases hs1 : 1000 < n1
  · go_enter Try.func3, Try.ntmps3
    go_wp2_with (go_at_call 15; refine (Seal.awake_calls _).mono ?_; rintro e w' ⟨rfl, hb⟩)
    go_ret
    exact ⟨rfl, hb⟩
  by_cases hs2 : 1000 < n2
  · go_enter Try.func3, Try.ntmps3
    go_wp2_with (go_at_call 15; refine (Seal.awake_calls _).mono ?_; rintro e w' ⟨rfl, hb⟩)
    go_ret
    exact ⟨rfl, hb⟩
  have hl0 := H1.out.below ((Below.refl _ _).alloc (Nat.le_refl _) (.cells #[] 5))
  have HL0 := Lib.hid hl0
  have hw2 : Hid (Rd w .u8 A2 n2 l2) := H2
  have HW := Lib.hid (wf_append H1.out.wf H2.out.wf)
  have HA : Hid (Crc.sumOn (Crc.sum l1) l2 = Crc.sum (l1 ++ l2)) := Lib.hid (Crc.sumOn_append _ _ _)
  clear hl0
  go_enter Try.func3, Try.ntmps3
  go_wp2_with fail
  refine (Seal.sum_calls _ _ _ l1 _ H1.out).mono ?_; rintro e w' ⟨rfl, rfl⟩
  go_wp2_with fail
  refine (Seal.refsum_calls _ _ _ l1 _ H1.out).mono ?_; rintro e w' ⟨rfl, rfl⟩
  go_wp2_with fail
  refine (Seal.sum_calls _ _ _ l1 _ H1.out).mono ?_; rintro e w' ⟨rfl, rfl⟩
  go_wp2_with fail
  refine (Seal.go_calls _ _ _ _ l2 _ (Crc.sum_u32 _) H2.out).mono ?_; rintro e w' ⟨rfl, rfl⟩
  go_wp2_with (at_builtin; refine wpList_append_rd _ rfl (.tmp 24) (.tmp 25) 22 rfl w.heap.size 5 .u8 1 Try.underlying22 info_u8 (by decide) (.slice (some ⟨w.heap.size, 0, none⟩) 0 0) 0 [] rfl ?c1 A1 n1 c1 l1 rfl HL0.out ?c2 ?c3 ?_)
  case c1 => exact World.ownsRow_lit w #[] 0 (Nat.le_refl _) (by simp only [maxLen]; omega) rfl
  case c2 => omega
  case c3 => simp
  intro v1 w1 ho1 hg1 hat1
  try simp only [Nat.zero_add, List.nil_append] at ho1
  have hb1 : Below w.heap.size w w1 := ((Below.refl _ _).alloc (Nat.le_refl _) (.cells #[] 5)).grown hg1 (by simp) (by simp [Value.ownBlock])
  have HR2 := Lib.hid (H2.out.below hb1)
  have HO1 := Lib.hid ho1
  have HB1 := Lib.hid hb1
  have hsz1 := hb1.size
  clear ho1 hg1 hat1 hb1
  go_wp2_with (at_builtin; refine wpList_append_rd _ rfl (.tmp 26) (.tmp 27) 22 rfl w.heap.size 5 .u8 1 Try.underlying22 info_u8 (by decide) v1 n1 l1 rfl HO1.out A2 n2 c2 l2 rfl HR2.out ?c1 ?c2 ?_)
  case c1 => omega
  case c2 => exact hsz1
  intro v2 w2 ho2 hg2 hat2
  have hb2 : Below w.heap.size w w2 := HB1.out.grown hg2 hsz1 (fun k hk => (HO1.out.lt k hk).1)
  obtain ⟨A3, c3, rfl, hr3⟩ := own_rd ho2 HW.out
  have HR3 := Lib.hid hr3
  have HB2 := Lib.hid hb2
  clear ho2 hg2 hat2 hb2 hr3
  go_wp2_with fail
  refine (Seal.refsum_calls _ _ _ _ _ HR3.out).mono ?_; rintro e w' ⟨rfl, rfl⟩
  rw [HA.out]
  go_wp2_with fail
  refine (Seal.awake_calls _).mono ?_; rintro e w' ⟨rfl, hb⟩
  have HB3 := Lib.hid (HB2.out.trans (hb.mono HB2.out.size))
  clear hb
  go_wp2_with fail
  go_ret
  exact ⟨rfl, HB3.out⟩
end Go.Proofs.Ytaohnialheccdaa.SealSumsW
