/- Rows told apart. New tables. -/
import Derived.Test.YtfhgjopoohfhjaaTableO
namespace Go.Proofs.Ytfhgjopoohfhjaa.Tbl
open Go.RowKit Base Step Vec Shape Erase
theorem nodup_ne {l : List plS.T} (h : (l.map node).Nodup) {i j : Nat} {p q : plS.T} (hi : l[i]? = some p) (hj : l[j]? = some q) (hij : j < i) : node p ≠ node q := fun e => by
  have h1 := List.pairwise_iff_getElem.1 h
  have hi1 := (List.getElem?_eq_some_iff.1 hi).1
  have hj1 := (List.getElem?_eq_some_iff.1 hj).1
  have h2 := h1 j i (by simpa using hj1) (by simpa using hi1) hij
  rw [List.getElem_map, List.getElem_map] at h2
  rw [List.getElem?_eq_getElem hi1] at hi
  rw [List.getElem?_eq_getElem hj1] at hj
  cases hi
  cases hj
  exact h2 e.symm
set_option maxRecDepth 100000 in
set_option maxHeartbeats 4000000 in
theorem apart_calls (A : Option Addr) (n c : Nat) (l : List Row) (w : World) (h : (Sh.sl rowS).ok w (A, n, c, l)) (hn : n ≤ 1099511627776) (hr : ∀ r ∈ l, rN r ≤ 8796093021952) (ha : ∀ r ∈ l, ((rP r).map node).Nodup) :
    Calls Try.prog 67 #[.slice A n c] w fun e w' => e = .returned (.bool true) ∧ Ext w w' := by
  have hnc := (sl_len h).2.1
  have H := Lib.hid h
  have HR := Lib.hid hr
  have HA := Lib.hid ha
  clear h hr ha
  go_enter Try.func67, Try.ntmps67
  go_wp2_with fail
  go_loopg [3] n (fun g i wr => ∃ k, k ≤ n ∧ g = n - k ∧ i = .int .i64 (k : Nat) ∧ Hid (Ext w wr))
  case atStart => exact ⟨0, Nat.zero_le _, rfl, rfl, Lib.hid (Ext.refl _)⟩
  case round =>
    obtain ⟨k, hk, rfl, rfl, HX⟩ := hrel
    by_cases hlt : k < n
    · obtain ⟨ad, r, rfl, hr0, hcell, hrok⟩ := row_at H.out hlt
      have hrn := HR.out r (List.mem_of_getElem? hr0)
      have hrnc := (sl_len hrok).2.1
      have HCELL := Lib.hid hcell
      have HROK := Lib.hid hrok
      have HND := Lib.hid (HA.out r (List.mem_of_getElem? hr0))
      clear hcell hrok hr0
      obtain ⟨wo, hwo⟩ : ∃ wo, wo = wr := ⟨_, rfl⟩
      subst hwo
      go_wp2_with fail
      go_loopg [4] (rN r) (fun g i wi => ∃ m, m ≤ rN r ∧ g = rN r - m ∧ i = .int .i64 (m : Nat) ∧ Hid (Ext w wi))
      case atStart => exact ⟨0, Nat.zero_le _, rfl, rfl, HX⟩
      case round =>
        clear HX
        obtain ⟨m, hm, rfl, rfl, HX⟩ := hrel
        have hrci := HX.out.cell_ HCELL.out
        by_cases hlt2 : m < rN r
        · obtain ⟨ap, p, hAp, hp, hq0, _, _, _⟩ := place_at HROK.out hlt2
          rw [hAp] at hrci
          have HP := Lib.hid hp
          have HQ0 := Lib.hid hq0
          clear hq0 hp
          obtain ⟨w2, hw2⟩ : ∃ w2, w2 = wr := ⟨_, rfl⟩
          subst hw2
          go_wp2_with fail
          clear hrci
          go_loopg [5] m (fun g i wi => ∃ j, j ≤ m ∧ g = m - j ∧ i = .int .i64 (j : Nat) ∧ Hid (Ext w wi))
          case atStart => exact ⟨0, Nat.zero_le _, rfl, rfl, HX⟩
          case round =>
            clear HX
            obtain ⟨j, hj, rfl, rfl, HX⟩ := hrel
            by_cases hlt3 : j < m
            · obtain ⟨ap2, q, hAq, hq, hz0, _, _, _⟩ := place_at HROK.out (i := j) (by omega)
              rw [hAp] at hAq
              cases hAq
              have hc0 := HX.out.cell_ HCELL.out
              rw [hAp] at hc0
              have hp0 := HX.out.cell_ HQ0.out
              have hq0 := HX.out.cell_ hz0
              have hjr : ((j : Nat) : Int) < ((rN r : Nat) : Int) := by omega
              have hne : (node p == node q) = false := by simpa using nodup_ne HND.out HP.out hq hlt3
              clear hz0 hq
              go_wp2_with fail
              go_quiet (fail)
              have HXN := Lib.hid (HX.out.drewN nq)
              go_wp2_with fail
              go_roundg (m - (j + 1))
              case measure => omega
              case rel => exact ⟨j + 1, by omega, rfl, by first | rfl | go_num, HXN⟩
            · obtain rfl : j = m := by omega
              go_wp2_with fail
              go_roundg (rN r - (j + 1))
              case measure => omega
              case rel => exact ⟨j + 1, by omega, rfl, by first | rfl | go_num, HX⟩
        · obtain rfl : m = rN r := by omega
          go_wp2_with fail
          go_roundg (n - (k + 1))
          case measure => omega
          case rel => exact ⟨k + 1, by omega, rfl, by first | rfl | go_num, HX⟩
    · obtain rfl : k = n := by omega
      go_wp2_with fail
      go_ret
      exact ⟨rfl, HX.out⟩
set_option maxRecDepth 100000 in
theorem new_calls (sl nd : Nat) (w : World) (h1 : 1 ≤ sl) (h2 : sl ≤ 24) (h3 : 1 ≤ nd) (h4 : nd ≤ 32) :
    Calls Try.prog 61 #[.int .i64 sl, .int .i64 nd] w fun e w' => e = .returned (.tuple #[.pointer (some ⟨w.heap.size, 0, none⟩), .int .i64 0]) ∧ Ext w w' ∧ TblAt w' w.heap.size sl nd 1 0 none 0 0 [] := by
  have hd1 : decide ((sl : Int) < 1) = false := by simp; omega
  have hd2 : decide ((24 : Int) < sl) = false := by simp; omega
  have hd3 : decide ((nd : Int) < 1) = false := by simp; omega
  have hd4 : decide ((32 : Int) < nd) = false := by simp; omega
  go_enter Try.func61, Try.ntmps61
  go_wp2_with fail
  go_ret2
  exact ⟨rfl, Ext.new _ _, at_new _ _, rfl, Nat.le_refl _, by decide, fun _ => rfl, fun i x hx => by cases hx⟩
end Go.Proofs.Ytfhgjopoohfhjaa.Tbl
