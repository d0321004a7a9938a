/- A shard's name read, walked. -/
import Derived.Test.YtipmkddcdnbihaaSealOpen
import Derived.Test.YtipmkddcdnbihaaVaultP
import Derived.Test.YtipmkddcdnbihaaRowSt
namespace Go.Proofs.Ytipmkddcdnbihaa.Vault
open Go.RowKit Base Step
open VaultP (Sh shOf nameB)
/-- A shard's name, as a value. -/
abbrev shV (s : Sh) : Value := .agg #[.int .u32 s.o, .int .u16 s.st, .int .u16 s.sl, .int .u32 s.g]
theorem reader_ext {w w' : World} {g : Nat} {xs : List Int} {t : Bool} (h : Pack.Reader w g xs t) (he : Ext w w') : Pack.Reader w' g xs t := by
  obtain ⟨A, n, c, hh⟩ := h
  exact ⟨A, n, c, he.at_ hh.at_, hh.rd.ext he, hh.room, hh.none⟩
theorem rd_off {w : World} {g n : Nat} {A : Option Addr} {xs : List Int} {a b c d : Int} {T : TypeId} {fr : Nat × Nat} (hr : Rd w .u8 A n xs) (hb : w.heap[g]? = some (.cells #[.int .u32 a, .int .u16 b, .int .u16 c, .int .u32 d] T fr)) : ∀ ad, A = some ad → 0 < n → ad.block ≠ g := by
  intro ad hA hn hg
  obtain ⟨ad', e, hc⟩ := hr.cell hn
  rw [hA] at e
  cases e
  have h0 := hc 0 hn
  unfold World.cell? at h0
  rw [block_add, hg, hb] at h0
  simp only [] at h0
  split at h0
  · cases h0
  · have hm := Array.mem_of_getElem? h0
    simp at hm
theorem reader_off {w w' : World} {g h : Nat} {xs : List Int} {t : Bool} {a b c d : Int} {T : TypeId} {fr : Nat × Nat} (hr : Pack.Reader w g xs t) (hb : w.heap[h]? = some (.cells #[.int .u32 a, .int .u16 b, .int .u16 c, .int .u32 d] T fr)) (hg : g ≠ h) (hc : Chg (fun i => i = h) w w') : Pack.Reader w' g xs t := by
  obtain ⟨A, n, c, hh⟩ := hr
  exact ⟨A, n, c, hc.at_ hh.at_ hg, hh.rd.chg hc fun ad e h0 => rd_off hh.rd hb ad e h0, hh.room, hh.none⟩
theorem drop_u8 {xs : List Int} (h : Le.U8s xs) (n : Nat) : Le.U8s (xs.drop n) := fun x hx => h x (List.mem_of_mem_drop hx)
set_option maxRecDepth 100000 in
set_option maxHeartbeats 4000000 in
theorem rshard_calls (g : Nat) (xs : List Int) (w : World) (hr : Pack.Reader w g xs false) (h12 : 12 ≤ xs.length) (hu : Le.U8s xs) (hx : xs.length ≤ 1099511627776) :
    Calls Try.prog 177 #[.pointer (some ⟨g, 0, none⟩)] w fun e w' => e = .returned (shV (shOf xs)) ∧ Pack.Reader w' g (xs.drop 12) false ∧ Chg (fun i => i = g) w w' := by
  have b1 := Le.of_take_bound (n := xs.length) hu rfl (j := 4) (by omega)
  have b2 := Le.of_take_bound (n := (xs.drop 4).length) (drop_u8 hu 4) rfl (j := 2) (by rw [List.length_drop]; omega)
  have b3 := Le.of_take_bound (n := (xs.drop 6).length) (drop_u8 hu 6) rfl (j := 2) (by rw [List.length_drop]; omega)
  have b4 := Le.of_take_bound (n := (xs.drop 8).length) (drop_u8 hu 8) rfl (j := 4) (by rw [List.length_drop]; omega)
  have e1 : Pack.rn 4 xs = Le.of (xs.take 4) := SealOpen.rn_yes (by omega)
  have e2 : Pack.rx 4 xs = xs.drop 4 := SealOpen.rx_yes (by omega)
  have e3 : Pack.rn 2 (xs.drop 4) = Le.of ((xs.drop 4).take 2) := SealOpen.rn_yes (by rw [List.length_drop]; omega)
  have e4 : Pack.rx 2 (xs.drop 4) = xs.drop 6 := by rw [SealOpen.rx_yes (by rw [List.length_drop]; omega), List.drop_drop]
  have e5 : Pack.rn 2 (xs.drop 6) = Le.of ((xs.drop 6).take 2) := SealOpen.rn_yes (by rw [List.length_drop]; omega)
  have e6 : Pack.rx 2 (xs.drop 6) = xs.drop 8 := by rw [SealOpen.rx_yes (by rw [List.length_drop]; omega), List.drop_drop]
  have e7 : Pack.rn 4 (xs.drop 8) = Le.of ((xs.drop 8).take 4) := SealOpen.rn_yes (by rw [List.length_drop]; omega)
  have e8 : Pack.rx 4 (xs.drop 8) = xs.drop 12 := by rw [SealOpen.rx_yes (by rw [List.length_drop]; omega), List.drop_drop]
  have w1 : IntKind.u32.wrap (Le.of (xs.take 4)) = Le.of (xs.take 4) := IntWalk.u32_in _ (by omega)
  have w2 : IntKind.u16.wrap (Le.of ((xs.drop 4).take 2)) = Le.of ((xs.drop 4).take 2) := IntWalk.u16_in _ (by omega)
  have w3 : IntKind.u16.wrap (Le.of ((xs.drop 6).take 2)) = Le.of ((xs.drop 6).take 2) := IntWalk.u16_in _ (by omega)
  have w4 : IntKind.u32.wrap (Le.of ((xs.drop 8).take 4)) = Le.of ((xs.drop 8).take 4) := IntWalk.u32_in _ (by omega)
  have hs : shOf xs = ⟨Le.of (xs.take 4), Le.of ((xs.drop 4).take 2), Le.of ((xs.drop 6).take 2), Le.of ((xs.drop 8).take 4)⟩ := rfl
  rw [hs]
  have hb0 := at_new w (.cells #[.int .u32 0, .int .u16 0, .int .u16 0, .int .u32 0] 111)
  have hr1 := reader_ext hr (Ext.new w (.cells #[.int .u32 0, .int .u16 0, .int .u16 0, .int .u32 0] 111))
  have hgl : g < w.heap.size := by obtain ⟨_, _, _, hh⟩ := hr; exact (Array.getElem?_eq_some_iff.1 hh.at_).1
  have HS : Hid (∀ n, (xs.drop n).length ≤ 1099511627776) := Lib.hid fun n => by rw [List.length_drop]; omega
  have t1 : Pack.rt 4 xs false = false := SealOpen.rt_yes (by omega)
  have t2 : Pack.rt 2 (xs.drop 4) false = false := SealOpen.rt_yes (by rw [List.length_drop]; omega)
  have t3 : Pack.rt 2 (xs.drop 6) false = false := SealOpen.rt_yes (by rw [List.length_drop]; omega)
  have t4 : Pack.rt 4 (xs.drop 8) false = false := SealOpen.rt_yes (by rw [List.length_drop]; omega)
  generalize Le.of (xs.take 4) = a1 at *
  generalize Le.of ((xs.drop 4).take 2) = a2 at *
  generalize Le.of ((xs.drop 6).take 2) = a3 at *
  generalize Le.of ((xs.drop 8).take 4) = a4 at *
  clear hr hs
  go_enter Try.func177, Try.ntmps177
  go_wp2_with fail
  refine (Pack.rnum_calls g xs false 4 _ hr1 (by omega) (by omega) hx).mono ?_
  rintro e v1 ⟨rfl, hr2, hc1⟩
  rw [show Int.toNat 4 = 4 from rfl, t1, e2] at hr2
  rw [show Int.toNat 4 = 4 from rfl, e1]
  have hb1 := hc1.at_ hb0 (by omega)
  go_wp2_with fail
  refine (Pack.rnum_calls g _ false 2 _ hr2 (by omega) (by omega) (HS.out 4)).mono ?_
  rintro e v2 ⟨rfl, hr3, hc2⟩
  rw [show Int.toNat 2 = 2 from rfl, t2, e4] at hr3
  rw [show Int.toNat 2 = 2 from rfl, e3]
  have hb2 := hc2.at_ hb1 (by omega)
  go_wp2_with fail
  refine (Pack.rnum_calls g _ false 2 _ hr3 (by omega) (by omega) (HS.out 6)).mono ?_
  rintro e v3 ⟨rfl, hr4, hc3⟩
  rw [show Int.toNat 2 = 2 from rfl, t3, e6] at hr4
  rw [show Int.toNat 2 = 2 from rfl, e5]
  have hb3 := hc3.at_ hb2 (by omega)
  go_wp2_with fail
  refine (Pack.rnum_calls g _ false 4 _ hr4 (by omega) (by omega) (HS.out 8)).mono ?_
  rintro e v4 ⟨rfl, hr5, hc4⟩
  rw [show Int.toNat 4 = 4 from rfl, t4, e8] at hr5
  rw [show Int.toNat 4 = 4 from rfl, e7]
  have hb4 := hc4.at_ hb3 (by omega)
  have HR5 := Lib.hid hr5
  have HC := Lib.hid (((hc1.trans hc2).trans hc3).trans hc4)
  clear hr1 hr2 hr3 hr4 hr5 hc1 hc2 hc3 hc4 hb0 hb1 hb2 hb3
  go_wp2_with (refine RowSt.wpList_put 111 _ _ rfl rfl rfl w.heap.size #[.int .u32 a1, .int .u16 a2, .int .u16 a3, .int .u32 a4] rfl rfl 111 _ hb4 (by kernel_rfl) rfl (by simp [Value.oneCell']) ?_; intro w8 hb8 hc8)
  refine bodyPost_ret (v := shV ⟨a1, a2, a3, a4⟩) (results_cell_row rfl _ _ w.heap.size 111 _ (0, 0) _ rfl hb8 Try.underlying111 rfl (by kernel_rfl)) rfl ?_
  refine ⟨rfl, reader_off HR5.out hb4 (by omega) hc8, ?_⟩
  have h1 : Chg (fun i => i = g) (w.alloc (.cells #[.int .u32 0, .int .u16 0, .int .u16 0, .int .u32 0] 111)) v4 := HC.out
  exact ((Chg.refl (fun i => i = g) w).alloc _ |>.trans h1).step hc8 fun i hi h => by omega
end Go.Proofs.Ytipmkddcdnbihaa.Vault
