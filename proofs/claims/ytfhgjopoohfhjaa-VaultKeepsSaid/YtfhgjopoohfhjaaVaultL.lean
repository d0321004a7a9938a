/- Which acts are light; an act's cells. -/
import Derived.Test.YtfhgjopoohfhjaaVaultK
import Derived.Test.YtfhgjopoohfhjaaShape
namespace Go.Proofs.Ytfhgjopoohfhjaa.VaultW
open Go.RowKit Base Step Vec Shape
open VaultP (nameB cellOf)
abbrev shS : Shape.Sh := .st (.cons (.int .u32) (.cons (.int .u16) (.cons (.int .u16) (.cons (.int .u32) .nil))))
abbrev actS : Shape.Sh := .st (.cons (.int .i64) (.cons shS (.cons (.sl (.int .u8)) (.cons (.int .i64) (.cons (.int .i64) (.cons (.int .u8) .nil))))))
abbrev Act := actS.T
/-- An act's shard, and its bytes. -/
def shA (x : Act) : VaultP.Sh := ⟨x.2.1.1, x.2.1.2.1, x.2.1.2.2.1, x.2.1.2.2.2.1⟩
def byA (x : Act) : List Int := x.2.2.1.2.2.2
def lenA (x : Act) : Nat := x.2.2.1.2.1
def capA (x : Act) : Nat := x.2.2.1.2.2.1
def adA (x : Act) : Option Addr := x.2.2.1.1
/-- What is known of an act at its place. -/
structure ActAt (w : World) (ad : Addr) (i : Nat) (x : Act) : Prop where
  s0 : w.cell? ⟨(ad.add (i * 9)).block, (ad.add (i * 9)).off + 1, none⟩ = some (.int .u32 (shA x).o)
  s1 : w.cell? ⟨(ad.add (i * 9)).block, (ad.add (i * 9)).off + 1 + 1, none⟩ = some (.int .u16 (shA x).st)
  s2 : w.cell? ⟨(ad.add (i * 9)).block, (ad.add (i * 9)).off + 1 + 2, none⟩ = some (.int .u16 (shA x).sl)
  s3 : w.cell? ⟨(ad.add (i * 9)).block, (ad.add (i * 9)).off + 1 + 3, none⟩ = some (.int .u32 (shA x).g)
  b : w.cell? ⟨(ad.add (i * 9)).block, (ad.add (i * 9)).off + 5, none⟩ = some (.slice (adA x) (lenA x) (capA x))
  rd : Rd w .u8 (adA x) (lenA x) (byA x)
  ok : (shA x).Ok
  room : lenA x ≤ capA x
  none : adA x = none → capA x = 0
theorem act_at {w : World} {A : Option Addr} {n c : Nat} {l : List Act} (h : (Shape.Sh.sl actS).ok w (A, n, c, l)) {i : Nat} (hi : i < n) : ∃ ad x, A = some ad ∧ l[i]? = some x ∧ ActAt w ad i x := by
  obtain ⟨h1, h2, h3, h4, h5⟩ : l.length = n ∧ n ≤ c ∧ c ≤ maxLen ∧ (A = none → c = 0) ∧ ∀ i (x : Act), l[i]? = some x → actS.ok w x ∧ ∃ ad, A = some ad ∧ ∀ j u, (actS.cells x)[j]? = some u → w.cell? (ad.add (i * actS.size + j)) = some u := h
  obtain ⟨x, hx⟩ : ∃ x, l[i]? = some x := ⟨_, List.getElem?_eq_getElem (by omega)⟩
  obtain ⟨ho, ad, rfl, hc⟩ := h5 i x hx
  have hsz : actS.size = 9 := rfl
  rw [hsz] at hc
  obtain ⟨kd, ⟨o, st, sl, g, u1⟩, ⟨D, dn, dc, dl⟩, N, M, bt, u2⟩ := x
  obtain ⟨_, hs, hb, _⟩ : _ ∧ _ ∧ _ ∧ _ := ho
  obtain ⟨k0, k1, k2, k3, _⟩ : (Lit.int .u32 o).wf = true ∧ (Lit.int .u16 st).wf = true ∧ (Lit.int .u16 sl).wf = true ∧ (Lit.int .u32 g).wf = true ∧ True := hs
  have e1 := hc 1 (.int .u32 o) rfl
  have e2 := hc 2 (.int .u16 st) rfl
  have e3 := hc 3 (.int .u16 sl) rfl
  have e4 := hc 4 (.int .u32 g) rfl
  have e5 := hc 5 (.slice D dn dc) rfl
  rw [← add_of_add] at e1 e2 e3 e4 e5
  have b0 := wf_u32 k0
  have b1 := wf_u16 k1
  have b2 := wf_u16 k2
  have b3 := wf_u32 k3
  exact ⟨ad, _, rfl, hx, e1, e2, e3, e4, e5, Shape.rd_of_ok (c := dc) hb, ⟨b0.1, b0.2, b1.1, b1.2, b2.1, b2.2, b3.1, b3.2⟩, hb.2.1, hb.2.2.2.1⟩
theorem ActAt.ext {w w' : World} {ad : Addr} {i : Nat} {x : Act} (h : ActAt w ad i x) (he : Ext w w') : ActAt w' ad i x := ⟨he.cell_ h.s0, he.cell_ h.s1, he.cell_ h.s2, he.cell_ h.s3, he.cell_ h.b, h.rd.ext he, h.ok, h.room, h.none⟩
/-- What light tells. -/
def Lit (n : Nat) (l : List Act) (w : World) (e : Ending) (w' : World) : Prop := w = w' ∧ ∃ b, e = .returned (.bool b) ∧ (b = true → n ≤ 30 ∧ ∀ x ∈ l, lenA x ≤ 200)
set_option maxRecDepth 100000 in
set_option maxHeartbeats 1000000 in
theorem light_calls (A : Option Addr) (n c : Nat) (l : List Act) (w : World) (hl : (Shape.Sh.sl actS).ok w (A, n, c, l)) :
    Calls Try.prog 49 #[.slice A n c] w (Lit n l w) := by
  have HL := Lib.hid hl
  have hn : n ≤ 9223372036854775807 := by have h1 := hl.2.1; have h2 := hl.2.2.1; simp only [maxLen] at h2; exact Nat.le_trans h1 (by omega)
  have HLEN : Hid (l.length = n) := Lib.hid hl.1
  clear hl
  go_enter Try.func49, Try.ntmps49
  go_wp2_with fail
  go_loop [3] (fun i => ∃ j : Nat, i = .int .i64 j ∧ j ≤ n ∧ j ≤ 30 ∧ Hid (∀ x ∈ l.take j, lenA x ≤ 200)) (fun i => 30 - (intOf i).toNat)
  case atStart => exact ⟨0, rfl, Nat.zero_le _, by omega, Lib.hid (by simp)⟩
  case round =>
    obtain ⟨j, rfl, hj, hj30, HA⟩ := hrel
    by_cases hlt : j < n ∧ j < 30
    · obtain ⟨h1, h2⟩ := hlt
      obtain ⟨ad, x, rfl, hx, hat⟩ := act_at HL.out h1
      have hb := hat.b
      have HX := Lib.hid hx
      have hr := hat.rd.room
      clear hx
      by_cases h200 : 200 < lenA x
      · have hd : (200 : Int) < lenA x := by omega
        clear hat
        go_wp2_with fail
        go_ret
        exact ⟨rfl, false, rfl, fun h => by cases h⟩
      · have hd : ¬ (200 : Int) < lenA x := by omega
        clear hat
        go_wp2_with fail
        go_round
        case rel =>
          refine ⟨j + 1, by go_num, by omega, by omega, Lib.hid fun y hy => ?_⟩
          rw [List.take_add_one, HX.out] at hy
          rcases List.mem_append.1 hy with hy | hy
          · exact HA.out y hy
          · simp at hy
            subst hy
            omega
        case measure => (simp [intOf]; try omega)
    · by_cases hjn : j = n
      · subst hjn
        have h30 : (j : Int) ≤ 30 := by omega
        have HT : Hid (∀ x ∈ l, lenA x ≤ 200) := Lib.hid fun x hx => HA.out x (by rw [List.take_of_length_le (by have := HLEN.out; omega)]; exact hx)
        clear hlt
        go_wp2_with fail
        go_ret
        exact ⟨rfl, true, by first | rfl | simp [h30], fun _ => ⟨hj30, HT.out⟩⟩
      · obtain rfl : j = 30 := by omega
        have h30 : ¬ (n : Int) ≤ 30 := by omega
        have h30n : (30 : Int) < n := by omega
        clear hlt
        go_wp2_with fail
        go_ret
        exact ⟨rfl, false, by first | rfl | simp [h30], fun h => by cases h⟩
end Go.Proofs.Ytfhgjopoohfhjaa.VaultW
