import Derived.Test.YtaohnialheccdaaSealFrame
import Derived.Test.YtaohnialheccdaaSealOpen
import Derived.Test.YtaohnialheccdaaFlip
import Derived.Test.YtaohnialheccdaaStep
import Derived.Test.YtaohnialheccdaaLex
namespace Go.Proofs.Ytaohnialheccdaa.SealFindsW
open Go.RowKit Base

/-- The frame under way. -/
def J (w : World) (kind : Int) (l : List Nat) (ad : Addr) (c fr bits k : Nat) (W : World) : Prop :=
  ∃ E, Flip.Ok l fr bits k E ∧ Own W (fun i => w.heap.size ≤ i) 5 1 (.slice (some ad) (12 + l.length) c) (12 + l.length) (nums .u8 (Frm.head kind l.length ++ Le.le 4 (Crc.sum (Frm.head kind l.length ++ l.map fun c : Nat => (c : Int))) ++ Flip.zip l E)) ∧ Ext w W

theorem xor_of (x m : Nat) (hx : x < 256) (hm : m < 8) : Go.bits .xor .u8 (x : Int) ((2 : Int) ^ m % 256) = ((x ^^^ 2 ^ m : Nat) : Int) := by
  have key : ∀ m < 8, ((2 : Int) ^ m % 256) = ((2 ^ m : Nat) : Int) ∧ 2 ^ m < 256 := by decide
  rw [(key m hm).1]
  exact u8_xor_nat x _ hx (key m hm).2
theorem bit_of (bt k : Nat) (b : Bool) (h : bt.testBit k = b) (hb : bt < 4294967296) : (Go.bits .and .u32 ((bt : Int) / 2 ^ k) 1 == 1) = b := by
  have e1 : ((bt : Int) / 2 ^ k) = ((bt / 2 ^ k : Nat) : Int) := by norm_cast
  have e2 : bt / 2 ^ k < 4294967296 := Nat.lt_of_le_of_lt (Nat.div_le_self _ _) hb
  have e3 := u32_and_nat (bt / 2 ^ k) 1 e2 (by decide)
  rw [e1, show (1 : Int) = ((1 : Nat) : Int) from rfl, e3, Nat.and_one_is_mod, ← h, Nat.testBit_eq_decide_div_mod_eq]
  rcases Nat.mod_two_eq_zero_or_one (bt / 2 ^ k) with h0 | h0 <;> rw [h0] <;> rfl

set_option maxHeartbeats 8000000 in
set_option maxRecDepth 100000 in
theorem walk (kind : Int) (A : Option Addr) (n c : Nat) (xs : List Int) (at_ bits : Int) (w : World) (hk : (Lit.int .u16 kind).wf = true) (h1 : Rd w .u8 A n xs) (_ : n * 1 ≤ 140737488351232) (ha : (Lit.int .u16 at_).wf = true) (hb : (Lit.int .u32 bits).wf = true) :
    Calls Try.prog 11 #[.int .u16 kind, .slice A n c, .int .u16 at_, .int .u32 bits] w fun e w' => e = .returned (.bool true) ∧ Below w.heap.size w w' := by
  obtain ⟨hk0, hk1⟩ := wf_u16 hk
  obtain ⟨ha0, ha1⟩ := wf_u16 ha
  obtain ⟨hb0, hb1⟩ := wf_u32 hb
  have hm1 := h1.room
  have HL1 := Lib.hid h1.len
  have HU : Hid (Le.U8s xs) := Lib.hid fun x hx => wf_u8 (h1.wf x hx)
  clear hk ha hb
  by_cases hs1 : 1000 < n
  · go_enter Try.func11, Try.ntmps11
    go_wp2_with (go_at_call 15; refine (Seal.awake_calls _).mono ?_; rintro e w' ⟨rfl, hb⟩)
    go_ret
    exact ⟨rfl, hb⟩
  by_cases hs2 : n < 5
  · go_enter Try.func11, Try.ntmps11
    go_wp2_with (go_at_call 15; refine (Seal.awake_calls _).mono ?_; rintro e w' ⟨rfl, hb⟩)
    go_ret
    exact ⟨rfl, hb⟩
  by_cases hs3 : bits = 0
  · subst hs3
    go_enter Try.func11, Try.ntmps11
    go_wp2_with (go_at_call 15; refine (Seal.awake_calls _).mono ?_; rintro e w' ⟨rfl, hb⟩)
    go_ret
    exact ⟨rfl, hb⟩
  have hs3' : (bits == 0) = false := beq_eq_false_iff_ne.2 hs3
  obtain ⟨fr, hfr⟩ : ∃ fr : Nat, at_ % (8 * (n : Int) - 31) = fr := ⟨(at_ % (8 * (n : Int) - 31)).toNat, by have := Int.emod_nonneg at_ (show 8 * (n : Int) - 31 ≠ 0 by omega); omega⟩
  have hfr1 : fr + 32 ≤ 8 * n := by have := Int.emod_lt_of_pos at_ (show 0 < 8 * (n : Int) - 31 by omega); omega
  have HFR := Lib.hid hfr
  go_enter Try.func11, Try.ntmps11
  go_wp2_with fail
  refine (SealFrame.frame_calls kind A n c xs _ hk0 hk1 h1 (by omega)).mono ?_
  rintro e w1 ⟨A1, c1, rfl, ho1, hbel1⟩
  go_wp2_with fail
  rw [hfr]
  obtain ⟨l, hl, hl8⟩ : ∃ l : List Nat, xs = l.map (fun c : Nat => (c : Int)) ∧ ∀ c ∈ l, c < 256 := ⟨_, (Flip.nat_list xs HU.out).1.symm, (Flip.nat_list xs HU.out).2⟩
  have hln : n = l.length := by have := HL1.out; rw [hl] at this; simpa using this.symm
  subst hln
  obtain ⟨bt, rfl⟩ : ∃ bt : Nat, bits = bt := ⟨bits.toNat, by omega⟩
  have HB0 := Lib.hid hb0
  have HB1 := Lib.hid (show bt < 4294967296 by omega)
  clear hb0 hb1
  have HLL := Lib.hid hl
  have HL8 := Lib.hid hl8
  clear hl hl8
  have hJ0 : ∃ ad, A1 = some ad ∧ J w kind l ad c1 fr bt 0 w1 := by
    obtain ⟨ad, rfl, _⟩ := (ho1.rd (fun x hx => by have := Frm.frame_u8 kind xs HU.out x hx; exact u8_wf this.1 this.2)).at_ (j := 0) (by omega)
    refine ⟨ad, rfl, _, Flip.ok_zero l fr bt, ?_, hbel1⟩
    rw [Flip.zip_zero, ← HLL.out]
    simpa only [Frm.frame, HLL.out, List.length_map] using ho1
  obtain ⟨ad, rfl, hJ⟩ := hJ0
  have HJ := Lib.hid hJ
  clear ho1 hbel1 hJ
  go_loopw [11, 12] (fun i j wr => ∃ k : Nat, k ≤ 32 ∧ i = .int .i64 k ∧ J w kind l ad c1 fr bt k wr) (fun i _ _ => 32 - (intOf i).toNat)
  case atStart => exact ⟨0, by omega, rfl, HJ.out⟩
  case round =>
    obtain ⟨k, hk, rfl, hj⟩ := hrel
    by_cases hlt : k < 32
    · by_cases hbt : bt.testBit k = true
      · have hcnd := bit_of bt k true hbt HB1.out
        obtain ⟨E, hok, how, hext⟩ := hj
        have hq : (fr + k) / 8 < l.length := by omega
        have hgd : (Frm.head kind l.length ++ Le.le 4 (Crc.sum (Frm.head kind l.length ++ l.map fun c : Nat => (c : Int))) ++ Flip.zip l E).getD (12 + (fr + k) / 8) 0 = ((l.getD ((fr + k) / 8) 0 ^^^ E.getD ((fr + k) / 8) 0 : Nat) : Int) := by
          rw [← Flip.zip_get hok.len hq, List.getD_eq_getElem?_getD, List.getElem?_append_right (by simp [Frm.head_length, Le.le_length]), ← List.getD_eq_getElem?_getD]
          congr 1
          simp [Frm.head_length, Le.le_length]
        have hu8 : ∀ x ∈ Frm.head kind l.length ++ Le.le 4 (Crc.sum (Frm.head kind l.length ++ l.map fun c : Nat => (c : Int))) ++ Flip.zip l E, (Lit.int .u8 x).wf = true := by
          intro x hx
          simp only [List.mem_append] at hx
          rcases hx with (h2 | h2) | h2
          · have := Frm.head_u8 _ _ x h2; exact u8_wf this.1 this.2
          · have := Le.le_u8 _ _ x h2; exact u8_wf this.1 this.2
          · obtain ⟨y, hy, rfl⟩ := List.mem_map.1 h2
            have := Flip.zip_u8 HL8.out hok.u8 y hy
            exact u8_wf (by omega) (by omega)
        obtain ⟨ad', had, hcell⟩ := (how.rd hu8).at_ (j := 12 + (fr + k) / 8) (by omega)
        cases had
        rw [hgd] at hcell
        obtain ⟨x, hx⟩ : ∃ x : Nat, l.getD ((fr + k) / 8) 0 ^^^ E.getD ((fr + k) / 8) 0 = x := ⟨_, rfl⟩
        have hx8 : x < 256 := by
          have := hu8 _ (List.getElem_mem (l := Frm.head kind l.length ++ Le.le 4 (Crc.sum (Frm.head kind l.length ++ l.map fun c : Nat => (c : Int))) ++ Flip.zip l E) (n := 12 + (fr + k) / 8) (by simp [Frm.head_length, Le.le_length, Flip.zip_length hok.len]; omega))
          rw [List.getD_eq_getElem?_getD, List.getElem?_eq_getElem (by simp [Frm.head_length, Le.le_length, Flip.zip_length hok.len]; omega)] at hgd
          have h2 := wf_u8 this
          simp only [Option.getD_some] at hgd
          rw [hgd, hx] at h2
          omega
        rw [hx] at hcell
        have hfz := Step.own_free how (12 + (fr + k) / 8)
        have HOW := Lib.hid how
        have HOK := Lib.hid hok
        have HEXT := Lib.hid hext
        have HX := Lib.hid hx
        clear how hok hext hu8 hgd hx
        go_wp2_with fail
        refine ⟨⟨k + 1, by omega, by simp, _, Flip.ok_flip HOK.out hbt (by omega), ?_, HEXT.out.setCell (by have := HOW.out.foot ad.block rfl; unfold Addr.add; split <;> exact this) _⟩, by simp [intOf]; omega⟩
        rw [xor_of x _ hx8 (by omega), Flip.zip_set HOK.out.len hq, HX.out]
        have hset : ∀ (hd z : List Int) (q : Nat) (v : Int), hd.length = 12 → hd ++ z.set q v = (hd ++ z).set (12 + q) v := by
          intro hd z q v h
          rw [List.set_append_right _ _ (by omega), h, Nat.add_sub_cancel_left]
        rw [hset _ _ _ _ (by simp [Frm.head_length, Le.le_length])]
        exact Step.own_set HOW.out (by omega) _
      · have hcnd := bit_of bt k false (by simpa using hbt) HB1.out
        have HJK := Lib.hid hj
        clear hj
        go_wp2_with fail
        obtain ⟨E, hok, how, hext⟩ := HJK.out
        exact ⟨⟨k + 1, by omega, by simp, E, Flip.ok_skip hok (by simpa using hbt), how, hext⟩, by simp [intOf]; omega⟩
    · obtain rfl : k = 32 := by omega
      obtain ⟨E, hok, how, hext⟩ := hj
      have hu8 : ∀ x ∈ Frm.head kind l.length ++ Le.le 4 (Crc.sum (Frm.head kind l.length ++ l.map fun c : Nat => (c : Int))) ++ Flip.zip l E, (Lit.int .u8 x).wf = true := by
        intro x hx
        simp only [List.mem_append] at hx
        rcases hx with (h2 | h2) | h2
        · have := Frm.head_u8 _ _ x h2; exact u8_wf this.1 this.2
        · have := Le.le_u8 _ _ x h2; exact u8_wf this.1 this.2
        · obtain ⟨y, hy, rfl⟩ := List.mem_map.1 h2
          have := Flip.zip_u8 HL8.out hok.u8 y hy
          exact u8_wf (by omega) (by omega)
      have HEN := Lib.hid (Flip.ends kind l E HL8.out fr bt hok (by omega) HB1.out hfr1 (by omega))
      have hrd := how.rd hu8
      have HCAP := Lib.hid how.cap
      have HEXT := Lib.hid hext
      clear how hok hext hu8
      go_wp2_with fail
      refine (SealOpen.open_calls _ _ _ _ _ hrd HCAP.out.1 HCAP.out.2 (by omega)).mono ?_
      rintro e w4 ⟨hb4, h4⟩
      rcases h4 with ⟨h4, _⟩ | ⟨_, h4, rfl⟩ | ⟨_, h4, _⟩
      · exact absurd HEN.out.1 h4
      case inr.inr => exact absurd h4 HEN.out.2
      go_wp2_with (go_at_call 15; refine (Seal.awake_calls _).mono ?_; rintro e w' ⟨rfl, hb⟩)
      go_ret
      exact ⟨rfl, (HEXT.out.trans hb4).trans hb⟩
end Go.Proofs.Ytaohnialheccdaa.SealFindsW
