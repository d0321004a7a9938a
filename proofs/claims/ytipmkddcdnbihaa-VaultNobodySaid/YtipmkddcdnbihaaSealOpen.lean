import Derived.Test.YtipmkddcdnbihaaSealFrame
namespace Go.Proofs.Ytipmkddcdnbihaa.SealOpen
open Go.RowKit Base
open Frm (mOf kOf nOf sOf loadOf form good)
open Pack (rn rx rt)

theorem rn_yes {k : Nat} {xs : List Int} (h : k ≤ xs.length) : rn k xs = Le.of (xs.take k) := if_pos h
theorem rx_yes {k : Nat} {xs : List Int} (h : k ≤ xs.length) : rx k xs = xs.drop k := if_pos h
theorem rt_yes {k : Nat} {xs : List Int} {t : Bool} (h : k ≤ xs.length) : rt k xs t = t := if_pos h
theorem torn_short {xs : List Int} (h : xs.length < 12) : rt 4 (rx 4 (rx 2 (rx 2 xs))) (rt 4 (rx 2 (rx 2 xs)) (rt 2 (rx 2 xs) (rt 2 xs false))) = true := by
  by_cases h1 : 2 ≤ xs.length
  · rw [rx_yes h1, rt_yes h1]
    by_cases h2 : 2 ≤ (xs.drop 2).length
    · rw [rx_yes h2, rt_yes h2]
      by_cases h3 : 4 ≤ ((xs.drop 2).drop 2).length
      · rw [rx_yes h3, rt_yes h3]
        exact if_neg (by simp at *; omega)
      · have e : rx 4 ((xs.drop 2).drop 2) = [] := if_neg h3
        rw [e]; rfl
    · have e : rx 2 (xs.drop 2) = [] := if_neg h2
      rw [e]; rfl
  · have e : rx 2 xs = [] := if_neg h1
    rw [e]; rfl
theorem long_all {xs : List Int} (h : 12 ≤ xs.length) : rn 2 xs = mOf xs ∧ rn 2 (rx 2 xs) = kOf xs ∧ rn 4 (rx 2 (rx 2 xs)) = nOf xs ∧ rn 4 (rx 4 (rx 2 (rx 2 xs))) = sOf xs ∧ rx 4 (rx 4 (rx 2 (rx 2 xs))) = xs.drop 12 ∧
    rt 4 (rx 4 (rx 2 (rx 2 xs))) (rt 4 (rx 2 (rx 2 xs)) (rt 2 (rx 2 xs) (rt 2 xs false))) = false := by
  rw [rx_yes (k := 2) (xs := xs) (by omega), rx_yes (k := 2) (by simp; omega), rx_yes (k := 4) (by simp; omega), rx_yes (k := 4) (by simp; omega), rt_yes (k := 4) (by simp; omega), rt_yes (k := 4) (by simp; omega), rt_yes (k := 2) (by simp; omega), rt_yes (k := 2) (by omega),
    rn_yes (k := 2) (xs := xs) (by omega), rn_yes (k := 2) (by simp; omega), rn_yes (k := 4) (by simp; omega), rn_yes (k := 4) (by simp; omega)]
  simp [mOf, kOf, nOf, sOf, List.drop_drop]
theorem rn_lo {k : Nat} {xs : List Int} (h : Le.U8s xs) (hk : k ≤ 8) : 0 ≤ rn k xs ∧ rn k xs < 18446744073709551616 := by
  unfold rn
  split
  · rename_i hl
    have hb := Le.of_take_bound h rfl hl
    have : (256 : Int) ^ k ≤ 256 ^ 8 := by
      have h1 : (256 : Nat) ^ k ≤ 256 ^ 8 := Nat.pow_le_pow_right (by omega) hk
      have h2 : ((256 ^ k : Nat) : Int) ≤ ((256 ^ 8 : Nat) : Int) := Int.ofNat_le.2 h1
      simpa using h2
    omega
  · omega
theorem rx_u8 {k : Nat} {xs : List Int} (h : Le.U8s xs) : Le.U8s (rx k xs) := by
  unfold rx
  split
  · exact fun x hx => h x (List.mem_of_mem_drop hx)
  · intro x hx; cases hx
theorem rx_length (k : Nat) (xs : List Int) : (rx k xs).length ≤ xs.length := by
  unfold rx
  split <;> simp

/-- What an opened frame comes to. -/
def Opened (xs : List Int) (w : World) (e : Ending) (w' : World) : Prop :=
  Below w.heap.size w w' ∧ ((¬ form xs ∧ e = .returned (.tuple #[.int .u16 0, .slice none 0 0, .int .i64 0, .int .i64 21])) ∨
    (form xs ∧ ¬ good xs ∧ e = .returned (.tuple #[.int .u16 0, .slice none 0 0, .int .i64 0, .int .i64 22])) ∨
    (form xs ∧ good xs ∧ ∃ A' c', e = .returned (.tuple #[.int .u16 (kOf xs), .slice A' (nOf xs).toNat c', .int .i64 (12 + nOf xs), .int .i64 0]) ∧ Own w' (fun i => w.heap.size ≤ i) 5 1 (.slice A' (nOf xs).toNat c') (nOf xs).toNat (nums .u8 (loadOf xs))))
set_option maxHeartbeats 800000 in
set_option maxRecDepth 100000 in
theorem open_calls (A : Option Addr) (n c : Nat) (xs : List Int) (w : World) (hr : Rd w .u8 A n xs) (hc : n ≤ c) (h0 : A = none → c = 0) (hn : n ≤ 1099511627776) :
    Calls Try.prog 176 #[.slice A n c] w (Opened xs w) := by
  have HR := Lib.hid hr
  have HL := Lib.hid hr.len
  have HU : Hid (Le.U8s xs) := Lib.hid fun x hx => wf_u8 (hr.wf x hx)
  have H0 := Lib.hid h0
  clear hr h0
  go_enter Try.func176, Try.ntmps176
  go_wp2_with fail
  refine (Pack.read_calls A n c xs w HR.out hc H0.out).mono ?_
  rintro e w1 ⟨rfl, hr1, hb1⟩
  have HR1 := Lib.hid hr1
  have HC1 := Lib.hid (Below.chg (S := fun i => w.heap.size ≤ i) hb1)
  clear hr1 hb1
  go_wp2_with fail
  refine (Pack.rnum_calls w.heap.size _ _ 2 _ HR1.out (by omega) (by omega) (by rw [HL.out]; omega)).mono ?_
  rintro e w2 ⟨rfl, hr2, hc2⟩
  have HR2 := Lib.hid hr2
  have HC2 := Lib.hid (HC1.out.step hc2 fun i _ h => by omega)
  clear hr2 hc2
  go_wp2_with fail
  refine (Pack.rnum_calls w.heap.size _ _ 2 _ HR2.out (by omega) (by omega) (by have := rx_length 2 xs; rw [HL.out] at this; exact Nat.le_trans this hn)).mono ?_
  rintro e w3 ⟨rfl, hr3, hc3⟩
  have HR3 := Lib.hid hr3
  have HC3 := Lib.hid (HC2.out.step hc3 fun i _ h => by omega)
  clear hr3 hc3
  go_wp2_with fail
  refine (Pack.rnum_calls w.heap.size _ _ 4 _ HR3.out (by omega) (by omega) (by have := rx_length 2 xs; have := rx_length 2 (rx 2 xs); rw [HL.out] at *; exact Nat.le_trans (Nat.le_trans ‹_› ‹_›) hn)).mono ?_
  rintro e w4 ⟨rfl, hr4, hc4⟩
  have HR4 := Lib.hid hr4
  have HC4 := Lib.hid (HC3.out.step hc4 fun i _ h => by omega)
  clear hr4 hc4
  go_wp2_with fail
  refine (Pack.rnum_calls w.heap.size _ _ 4 _ HR4.out (by omega) (by omega) (by have := rx_length 2 xs; have := rx_length 2 (rx 2 xs); have := rx_length 4 (rx 2 (rx 2 xs)); rw [HL.out] at *; simp at *; omega)).mono ?_
  rintro e w5 ⟨rfl, hr5, hc5⟩
  have HR5 := Lib.hid hr5
  have HC5 := Lib.hid (HC4.out.step hc5 fun i _ h => by omega)
  clear hr5 hc5
  have hm := rn_lo (k := 2) HU.out (by omega)
  by_cases hs : xs.length < 12
  · have hr5 := HR5.out
    simp only [show Int.toNat 2 = 2 from rfl, show Int.toNat 4 = 4 from rfl] at hr5
    rw [torn_short hs] at hr5
    have HR6 := Lib.hid hr5
    clear hr5 hm
    go_wp2_with fail
    refine (Pack.torn_calls _ _ _ _ HR6.out).mono ?_
    rintro e w6 ⟨rfl, rfl⟩
    go_wp2_with fail
    exact bodyPost_ret (v := .tuple #[.int .u16 0, .slice none 0 0, .int .i64 0, .int .i64 21]) (by simp [results, Try.results176, go_sem]) rfl ⟨HC5.out.below, .inl ⟨fun h => by have := h.1; omega, rfl⟩⟩
  · have hlen : 12 ≤ xs.length := by omega
    obtain ⟨e1, e2, e3, e4, e5, e6⟩ := long_all hlen
    have hr5 := HR5.out
    simp only [show Int.toNat 2 = 2 from rfl, show Int.toNat 4 = 4 from rfl] at hr5
    rw [e5, e6] at hr5
    have HR6 := Lib.hid hr5
    rw [e1] at hm
    have hm0 := hm.1
    have hm1 := hm.2
    have hk := rn_lo (k := 2) (rx_u8 (k := 2) HU.out) (by omega)
    have hnn := Le.of_take_bound (n := (xs.drop 4).length) (fun x hx => HU.out x (List.mem_of_mem_drop hx)) rfl (j := 4) (by simp; omega)
    have hss := Le.of_take_bound (n := (xs.drop 8).length) (fun x hx => HU.out x (List.mem_of_mem_drop hx)) rfl (j := 4) (by simp; omega)
    have hkk := Le.of_take_bound (n := (xs.drop 2).length) (fun x hx => HU.out x (List.mem_of_mem_drop hx)) rfl (j := 2) (by simp; omega)
    change 0 ≤ nOf xs ∧ nOf xs < 256 ^ 4 at hnn
    change 0 ≤ sOf xs ∧ sOf xs < 256 ^ 4 at hss
    change 0 ≤ kOf xs ∧ kOf xs < 256 ^ 2 at hkk
    have hn0 := hnn.1
    have hn1 : nOf xs < 4294967296 := hnn.2
    have hs0 := hss.1
    have hs1 : sOf xs < 4294967296 := hss.2
    have hk0 := hkk.1
    have hk1 : kOf xs < 65536 := hkk.2
    simp only [show Int.toNat 2 = 2 from rfl, show Int.toNat 4 = 4 from rfl, e1, e2, e3, e4]
    clear e1 e2 e3 e4 e5 e6 hr5 hm hk hnn hss hkk
    go_wp2_with fail
    refine (Pack.torn_calls _ _ _ _ HR6.out).mono ?_
    rintro e w6 ⟨rfl, rfl⟩
    by_cases hme : mOf xs = 53021
    · have hmb : (mOf xs != 53021) = false := by rw [hme]; rfl
      have HME := Lib.hid hme
      clear hme
      by_cases hnl : 65536 < nOf xs
      · go_wp2_with fail
        exact bodyPost_ret (v := .tuple #[.int .u16 0, .slice none 0 0, .int .i64 0, .int .i64 21]) (by simp [results, Try.results176, go_sem]) rfl ⟨HC5.out.below, .inl ⟨fun h => by have := h.2.2.1; omega, rfl⟩⟩
      · go_wp2_with fail
        refine (Pack.left_calls _ _ _ _ HR6.out).mono ?_
        rintro e w6 ⟨rfl, rfl⟩
        have hdl : (xs.drop 12).length = xs.length - 12 := by simp
        rw [hdl]
        clear hdl
        by_cases hnf : xs.length - 12 < nOf xs
        · go_wp2_with fail
          exact bodyPost_ret (v := .tuple #[.int .u16 0, .slice none 0 0, .int .i64 0, .int .i64 21]) (by simp [results, Try.results176, go_sem]) rfl ⟨HC5.out.below, .inl ⟨fun h => by have := h.2.2.2; omega, rfl⟩⟩
        · have hform : form xs := ⟨hlen, HME.out, by omega, by omega⟩
          have HFO := Lib.hid hform
          have hxl : xs.length ≤ 1099511627776 := by rw [HL.out]; exact hn
          have hA0 := HR.out.cell (by have := HL.out; omega)
          obtain ⟨ad, rfl, _⟩ := hA0
          clear hform
          go_wp2_with fail
          refine (Pack.rraw_yes _ _ _ _ _ HR6.out hn0 (by simp; omega) (by simp; omega)).mono ?_
          rintro e w7 ⟨A7, c7, rfl, ho7, _, hc7⟩
          have HO7 := Lib.hid (ho7.mono fun i _ h => Nat.le_trans HC5.out.size h)
          have HC7 := Lib.hid (HC5.out.step hc7 fun i _ h => by omega)
          have hwl : ∀ x ∈ loadOf xs, (Lit.int .u8 x).wf = true := fun x hx => HR.out.wf x (List.mem_of_mem_drop (List.mem_of_mem_take hx))
          have HRL : Hid (Rd w7 .u8 A7 (nOf xs).toNat (loadOf xs)) := Lib.hid (HO7.out.rd hwl)
          have HR8 := Lib.hid (rd_take (HR.out.below HC7.out.below) (m := 8) (by have := HL.out; omega))
          have hc8 : 8 ≤ n := by have := HL.out; omega
          clear ho7 hc7 hwl
          go_wp2_with fail
          refine (Seal.sum_calls _ _ _ _ _ HR8.out).mono ?_
          rintro e w' ⟨rfl, rfl⟩
          go_wp2_with fail
          refine (Seal.go_calls _ _ _ _ _ _ (Crc.sum_u32 _) HRL.out).mono ?_
          rintro e w' ⟨rfl, rfl⟩
          have hsa : Crc.sumOn (Crc.sum (List.take 8 xs)) (loadOf xs) = Crc.sum (List.take 8 xs ++ loadOf xs) := Crc.sumOn_append _ _ _
          rw [hsa]
          clear hsa
          by_cases hgd : Crc.sum (List.take 8 xs ++ loadOf xs) = sOf xs
          · have hgb : (Crc.sum (List.take 8 xs ++ loadOf xs) != sOf xs) = false := by rw [hgd]; simp
            have HGD := Lib.hid hgd
            clear hgd
            go_wp2_with fail
            refine bodyPost_ret (v := .tuple #[.int .u16 (kOf xs), .slice A7 (nOf xs).toNat c7, .int .i64 (12 + nOf xs), .int .i64 0]) (by simp [results, Try.results176, go_sem]) rfl ⟨HC7.out.below, .inr (.inr ⟨HFO.out, HGD.out, A7, c7, rfl, HO7.out⟩)⟩
          · have hgb : (Crc.sum (List.take 8 xs ++ loadOf xs) != sOf xs) = true := by rw [bne_iff_ne]; exact hgd
            have HGD := Lib.hid hgd
            clear hgd
            go_wp2_with fail
            exact bodyPost_ret (v := .tuple #[.int .u16 0, .slice none 0 0, .int .i64 0, .int .i64 22]) (by simp [results, Try.results176, go_sem]) rfl ⟨HC7.out.below, .inr (.inl ⟨HFO.out, HGD.out, rfl⟩)⟩
    · have hmb : (mOf xs != 53021) = true := by rw [bne_iff_ne]; exact hme
      go_wp2_with fail
      exact bodyPost_ret (v := .tuple #[.int .u16 0, .slice none 0 0, .int .i64 0, .int .i64 21]) (by simp [results, Try.results176, go_sem]) rfl ⟨HC5.out.below, .inl ⟨fun h => hme h.2.1, rfl⟩⟩
end Go.Proofs.Ytipmkddcdnbihaa.SealOpen
