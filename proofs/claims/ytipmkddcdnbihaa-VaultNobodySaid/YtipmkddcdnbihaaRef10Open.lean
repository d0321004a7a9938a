import Derived.Test.YtipmkddcdnbihaaRef10
import Derived.Deep.RegionHeld3
namespace Go.Proofs.Ytipmkddcdnbihaa.Ref10Open
open Go.RowKit Base
open Frm (mOf kOf nOf sOf loadOf form good)

theorem rd_cut {w : World} {k : IntKind} {A : Option Addr} {n : Nat} {xs : List Int} (h : Rd w k A n xs) {a b : Nat} (hab : a ≤ b) (hb : b ≤ n) : Rd w k (A.map fun x => x.add a) (b - a) ((xs.drop a).take (b - a)) :=
  rd_take (rd_dropMap h (by omega)) (by omega)

/-- The one slice lies in the other's block. -/
def Sub (A' A : Option Addr) : Prop := ∀ ad', A' = some ad' → ∃ ad, A = some ad ∧ ad'.block = ad.block
theorem sub_map (A : Option Addr) (k : Nat) : Sub (A.map fun x => x.add k) A := fun ad' h => by
  rcases A with _ | ad
  · cases h
  · cases h; exact ⟨ad, rfl, block_add _ _⟩
theorem sub_self (A : Option Addr) : Sub A A := fun ad h => ⟨ad, h, rfl⟩
/-- What the document's Open comes to. -/
def ROpened (A : Option Addr) (xs : List Int) (w : World) (e : Ending) (w' : World) : Prop :=
  Ext w w' ∧ ((¬ form xs ∧ e = .returned (.tuple #[.int .u16 0, .slice none 0 0, .int .i64 21])) ∨
    (form xs ∧ ¬ good xs ∧ e = .returned (.tuple #[.int .u16 0, .slice none 0 0, .int .i64 22])) ∨
    (form xs ∧ good xs ∧ ∃ A' c', e = .returned (.tuple #[.int .u16 (kOf xs), .slice A' (nOf xs).toNat c', .int .i64 0]) ∧ Rd w' .u8 A' (nOf xs).toNat (loadOf xs) ∧ Sub A' A ∧ (nOf xs).toNat ≤ c' ∧ (A' = none → c' = 0)))

set_option maxHeartbeats 1600000 in
set_option maxRecDepth 100000 in
theorem open_calls (A : Option Addr) (n c : Nat) (xs : List Int) (w : World) (hr : Rd w .u8 A n xs) (hc : n ≤ c) (hn : n ≤ 1099511627776) :
    Calls Try.prog 185 #[.slice A n c] w (ROpened A xs w) := by
  have HL := Lib.hid hr.len
  have HU : Hid (Le.U8s xs) := Lib.hid fun x hx => wf_u8 (hr.wf x hx)
  by_cases hs : n < 12
  · go_enter Try.func185, Try.ntmps185
    go_wp2_with fail
    go_ret3
    exact ⟨Ext.refl _, .inl ⟨fun h => by have := h.1; rw [HL.out] at this; omega, rfl⟩⟩
  have hA0 := hr.cell (by omega)
  obtain ⟨ad, rfl, hA0⟩ := hA0
  clear hA0
  have hr4 := rd_cut hr (a := 4) (b := 8) (by omega) (by omega)
  have hr0 := rd_take hr (m := 2) (by omega)
  have hr8 := rd_take hr (m := 8) (by omega)
  have hrs := rd_cut hr (a := 8) (b := 12) (by omega) (by omega)
  have hrk := rd_cut hr (a := 2) (b := 4) (by omega) (by omega)
  have hnn := Le.of_bound ((xs.drop 4).take 4) fun x hx => HU.out x (List.mem_of_mem_drop (List.mem_of_mem_take hx))
  have hss := Le.of_bound ((xs.drop 8).take 4) fun x hx => HU.out x (List.mem_of_mem_drop (List.mem_of_mem_take hx))
  have hkk := Le.of_bound ((xs.drop 2).take 2) fun x hx => HU.out x (List.mem_of_mem_drop (List.mem_of_mem_take hx))
  have hmm := Le.of_bound (xs.take 2) fun x hx => HU.out x (List.mem_of_mem_take hx)
  have hl := HL.out
  rw [List.length_take, List.length_drop, Nat.min_eq_left (by omega)] at hnn hss hkk
  rw [List.length_take, Nat.min_eq_left (by omega)] at hmm
  change 0 ≤ nOf xs ∧ nOf xs < 256 ^ 4 at hnn
  change 0 ≤ sOf xs ∧ sOf xs < 256 ^ 4 at hss
  change 0 ≤ kOf xs ∧ kOf xs < 256 ^ 2 at hkk
  change 0 ≤ mOf xs ∧ mOf xs < 256 ^ 2 at hmm
  have hn0 := hnn.1
  have hn1 : nOf xs < 4294967296 := hnn.2
  have hs0 := hss.1
  have hs1 : sOf xs < 4294967296 := hss.2
  have hk0 := hkk.1
  have hk1 : kOf xs < 65536 := hkk.2
  have hm0 := hmm.1
  have hm1 : mOf xs < 65536 := hmm.2
  clear hnn hss hkk hmm hl
  go_enter Try.func185, Try.ntmps185
  go_wp2_with fail
  refine (Ref01.of_calls _ _ _ _ _ hr4 (by omega)).mono ?_
  rintro e w' ⟨rfl, rfl⟩
  have en : Le.of (List.take (8 - 4) (List.drop 4 xs)) = nOf xs := rfl
  have em : Le.of (List.take 2 xs) = mOf xs := rfl
  have es : Le.of (List.take (12 - 8) (List.drop 8 xs)) = sOf xs := rfl
  have ek : Le.of (List.take (4 - 2) (List.drop 2 xs)) = kOf xs := rfl
  rw [en]
  clear en
  go_wp2_with fail
  refine (Ref01.of_calls _ _ _ _ _ hr0 (by omega)).mono ?_
  rintro e w' ⟨rfl, rfl⟩
  rw [em]
  clear em
  have EK := Lib.hid ek
  have ES := Lib.hid es
  clear ek es
  by_cases hme : mOf xs = 53021
  · have hmb : (mOf xs != 53021) = false := by rw [hme]; rfl
    have HME := Lib.hid hme
    clear hme
    by_cases hnl : 65536 < nOf xs
    · go_wp2_with fail
      go_ret3
      exact ⟨Ext.refl _, .inl ⟨fun h => by have := h.2.2.1; omega, rfl⟩⟩
    by_cases hnf : (n : Int) - 12 < nOf xs
    · go_wp2_with fail
      go_ret3
      exact ⟨Ext.refl _, .inl ⟨fun h => by have := h.2.2.2; rw [HL.out] at this; omega, rfl⟩⟩
    have HF : Hid (form xs) := Lib.hid ⟨by rw [HL.out]; omega, HME.out, by omega, by rw [HL.out]; omega⟩
    obtain ⟨N, hN⟩ : ∃ N : Nat, nOf xs = N := ⟨(nOf xs).toNat, by omega⟩
    have HLO : Hid (loadOf xs = (xs.drop 12).take N) := Lib.hid (by rw [loadOf, hN]; rfl)
    have hrl := rd_cut hr (a := 12) (b := 12 + N) (by omega) (by omega)
    have e1 : 12 + N - 12 = N := by omega
    rw [e1, ← HLO.out] at hrl
    have HNN := Lib.hid hN
    rw [hN] at hnl hnf ⊢
    clear hN e1 hn0 hn1
    have hrl1 : c = 12 → Rd w .u8 (some ad) N (loadOf xs) := fun h => by
      obtain rfl : N = 0 := by omega
      rw [HLO.out]
      exact rd_nil _ _ _
    have HRL1 := Lib.hid hrl1
    clear hrl1
    have HW : Hid (∀ x ∈ List.take 8 xs ++ loadOf xs, (Lit.int .u8 x).wf = true) := Lib.hid (wf_append (fun x hx => hr.wf x (List.mem_of_mem_take hx)) (fun x hx => hr.wf x (by rw [HLO.out] at hx; exact List.mem_of_mem_drop (List.mem_of_mem_take hx))))
    have hc8 : (8 : Int) ≤ (c : Int) := by omega
    have hc12 : (12 : Int) ≤ (c : Int) := by omega
    have hn8 : (8 : Int) ≤ (n : Int) := by omega
    by_cases hcc : c = 12
    all_goals
      first | (have hrl2 := HRL1.out hcc; subst hcc) | have hrl2 := hrl
      clear hrl
      go_wp2_with fail
      go_region_held3 (fun _ => True) (trivial) (first
        | (go_at_call 235; refine (Seal.refsum_calls _ _ _ _ _ (ho2.rd HW.out)).mono ?_; rintro e w' ⟨rfl, rfl⟩)
        | (go_at_call 234; refine (Ref01.of_calls _ _ _ _ _ (hrs.ext he2) (by omega)).mono ?_; rintro e w' ⟨rfl, rfl⟩)
        | (refine step_more w _ (by rfl) _ _ _ (by rfl) 5 .u8 1 Try.underlying55 Pack.info_u8 (by decide) _ 0 [] (by rfl) (own_empty (at_new w _) (Nat.le_refl _)) (Ext.new w _).drew (some ad) 8 _ (xs.take 8) (by rfl) (hr8.ext (Ext.new w _).drew) (by omega) ?_; intro A1 c1 w1 ho1 he1)
        | (refine step_more w _ (by rfl) _ _ _ (by rfl) 5 .u8 1 Try.underlying55 Pack.info_u8 (by decide) _ 8 (xs.take 8) (by rfl) ho1 he1 _ N _ (loadOf xs) (by rfl) (hrl2.ext he1) (by omega) ?_; intro A2 c2 w2 ho2 he2))
      rw [ES.out, wrap_u32 hs0 hs1]
      by_cases hgd : Crc.sum (List.take 8 xs ++ loadOf xs) = sOf xs
      · have hgb : (Crc.sum (List.take 8 xs ++ loadOf xs) != sOf xs) = false := by rw [hgd]; simp
        have HGD := Lib.hid hgd
        clear hgd
        go_wp2_with fail
        refine (Ref01.of_calls _ _ _ _ _ (hrk.ext he2) (by omega)).mono ?_
        rintro e w' ⟨rfl, rfl⟩
        rw [EK.out]
        go_wp2_with fail
        go_ret3
        have h1 := hrl2.ext he2
        exact ⟨he2, .inr (.inr ⟨HF.out, HGD.out, _, _, by rw [HNN.out]; rfl, by rw [HNN.out]; exact h1, by first | exact sub_self _ | exact sub_map (some ad) 12, by rw [HNN.out]; simp only [Int.toNat_natCast]; omega, by intro h; first | cases h | (simp at h)⟩)⟩
      · have hgb : (Crc.sum (List.take 8 xs ++ loadOf xs) != sOf xs) = true := by rw [bne_iff_ne]; exact hgd
        have HGD := Lib.hid hgd
        clear hgd
        go_wp2_with fail
        go_ret3
        exact ⟨he2, .inr (.inl ⟨HF.out, HGD.out, rfl⟩)⟩
  · have hmb : (mOf xs != 53021) = true := by rw [bne_iff_ne]; exact hme
    go_wp2_with fail
    go_ret3
    exact ⟨Ext.refl _, .inl ⟨fun h => hme h.2.1, rfl⟩⟩
end Go.Proofs.Ytipmkddcdnbihaa.Ref10Open
