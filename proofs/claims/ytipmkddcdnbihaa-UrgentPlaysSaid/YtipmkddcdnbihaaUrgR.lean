/- The document's lists of jobs: read; Less, Index: walked. -/
import Derived.Test.YtipmkddcdnbihaaUrgJ
namespace Go.Proofs.Ytipmkddcdnbihaa.Urg
open Go.RowKit Base Step MapIs Vec
open UrgP
/-- A list of jobs, read. -/
structure RowJ (w : World) (A : Option Addr) (n c : Nat) (r : List Job) : Prop where
  len : r.length = n
  room : n ≤ c
  most : c ≤ maxLen
  nil : A = none → c = 0
  at_ : ∀ i j, r[i]? = some j → Ok j ∧ ∃ ad, A = some ad ∧ w.cell? (ad.add (i * 3)) = some (.int .u32 j.o) ∧ w.cell? ⟨(ad.add (i * 3)).block, (ad.add (i * 3)).off + 1, none⟩ = some (.int .u16 j.s) ∧ w.cell? ⟨(ad.add (i * 3)).block, (ad.add (i * 3)).off + 2, none⟩ = some (.int .i64 j.g)
theorem RowJ.ext {w w' : World} {A : Option Addr} {n c : Nat} {r : List Job} (h : RowJ w A n c r) (he : Ext w w') : RowJ w' A n c r :=
  ⟨h.len, h.room, h.most, h.nil, fun i j hj => by
    obtain ⟨h1, ad, h2, h3, h4, h5⟩ := h.at_ i j hj
    exact ⟨h1, ad, h2, he.cell_ h3, he.cell_ h4, he.cell_ h5⟩⟩
theorem RowJ.chg {S : Nat → Prop} {w w' : World} {A : Option Addr} {n c : Nat} {r : List Job} (h : RowJ w A n c r) (hc : Chg S w w') (ho : ∀ ad, A = some ad → ¬ S ad.block) : RowJ w' A n c r :=
  ⟨h.len, h.room, h.most, h.nil, fun i j hj => by
    obtain ⟨h1, ad, h2, h3, h4, h5⟩ := h.at_ i j hj
    have hb : ¬ S (ad.add (i * 3)).block := by rw [block_add]; exact ho ad h2
    exact ⟨h1, ad, h2, hc.cell h3 hb, hc.cell h4 hb, hc.cell h5 hb⟩⟩
theorem RowJ.nil_ (w : World) : RowJ w none 0 0 [] := ⟨rfl, Nat.le_refl _, Nat.zero_le _, fun _ => rfl, fun i j h => by cases h⟩
theorem add_add (ad : Addr) (a b : Nat) : (ad.add a).add b = ad.add (a + b) := by
  unfold Addr.add
  cases ad
  by_cases ha : a = 0 <;> by_cases hb : b = 0 <;> simp [ha, hb, Nat.add_assoc]
/-- A list without its first ones. -/
theorem RowJ.drop {w : World} {ad : Addr} {n c : Nat} {r : List Job} (h : RowJ w (some ad) n c r) (k : Nat) (hk : k ≤ n) : RowJ w (some (ad.add (k * 3))) (n - k) (c - k) (r.drop k) :=
  ⟨by rw [List.length_drop, h.len], by have := h.room; omega, by have := h.most; omega, fun e => by (cases e), fun i j hj => by
    rw [List.getElem?_drop] at hj
    obtain ⟨h1, _, e, h3, h4, h5⟩ := h.at_ (k + i) j hj
    cases e
    have ha : (ad.add (k * 3)).add (i * 3) = ad.add ((k + i) * 3) := by rw [add_add, Nat.add_mul]
    exact ⟨h1, _, rfl, by rw [ha]; exact h3, by rw [ha]; exact h4, by rw [ha]; exact h5⟩⟩
theorem RowJ.take {w : World} {A : Option Addr} {n c : Nat} {r : List Job} (h : RowJ w A n c r) (k : Nat) (hk : k ≤ n) : RowJ w A k c (r.take k) :=
  ⟨by rw [List.length_take, h.len]; omega, by have := h.room; omega, h.most, h.nil, fun i j hj => by
    have h0 := (List.getElem?_eq_some_iff.1 hj).1
    rw [List.length_take] at h0
    rw [List.getElem?_take_of_lt (by omega)] at hj
    exact h.at_ i j hj⟩
/-- A row of the call's own reads so. -/
theorem RowJ.own {w : World} {S : Nat → Prop} {T : TypeId} {A : Option Addr} {n c : Nat} {r : List Job} (h : Own w S T 3 (.slice A n c) n (r.flatMap jobV)) (hl : r.length = n) (hok : ∀ j ∈ r, Ok j) (hm : c ≤ maxLen) : RowJ w A n c r :=
  ⟨hl, h.cap.1, hm, h.cap.2, fun i j hj => by
    have h0 := flat_at hj (c := 0) (v := .int .u32 j.o) rfl
    have h1 := flat_at hj (c := 1) (v := .int .u16 j.s) rfl
    have h2 := flat_at hj (c := 2) (v := .int .i64 j.g) rfl
    obtain ⟨ad, rfl, k0⟩ := own_cell h h0
    obtain ⟨_, e1, k1⟩ := own_cell h h1
    obtain ⟨_, e2, k2⟩ := own_cell h h2
    cases e1
    cases e2
    obtain ⟨g, cur, rfl, _⟩ := Splice.blk_own h
    rw [Splice.add_zero_, Nat.zero_add] at k0 k1 k2
    refine ⟨hok j (List.mem_of_getElem? hj), _, rfl, ?_, ?_, ?_⟩
    · rw [Splice.add_zero_, Nat.zero_add]; simpa using k0
    · rw [Splice.add_zero_, Nat.zero_add]; exact k1
    · rw [Splice.add_zero_, Nat.zero_add]; exact k2⟩
set_option maxRecDepth 100000 in
theorem less_calls (a b : Job) (w : World) : Calls Try.prog 81 #[jobA a, jobA b] w fun e w' => e = .returned (.bool (UrgP.ahead a b)) ∧ Ext w w' := by
  obtain ⟨r, hr⟩ : ∃ r, r = UrgP.ahead a b := ⟨_, rfl⟩
  have HR := Lib.hid hr
  rw [← hr]
  clear hr
  obtain ⟨o, s, g⟩ := a
  obtain ⟨o', s', g'⟩ := b
  have he : Ext w ((w.alloc (.cells #[.int .u32 o, .int .u16 s, .int .i64 g] 35)).alloc (.cells #[.int .u32 o', .int .u16 s', .int .i64 g'] 35)) := (Ext.new _ _).trans (Ext.new _ _)
  have HE := Lib.hid he
  clear he
  go_enter Try.func81, Try.ntmps81
  by_cases h1 : g = g'
  · by_cases h2 : o = o'
    · go_wp2_with fail
      go_ret
      subst h1 h2
      exact ⟨by rw [HR.out, UrgP.ahead, if_pos rfl, if_pos rfl]; rfl, HE.out⟩
    · go_wp2_with fail
      go_ret
      subst h1
      exact ⟨by rw [HR.out, UrgP.ahead, if_pos rfl, if_neg h2]; rfl, HE.out⟩
  · go_wp2_with fail
    go_ret
    exact ⟨by rw [HR.out, UrgP.ahead, if_neg h1]; rfl, HE.out⟩
/-- What Index tells. -/
def idx (r : List Job) (k : Int × Int) : Int := match posOf r k with | some i => (i : Int) | none => -1
theorem idx_at {r : List Job} {k : Int × Int} {i : Nat} (hi : i < r.length) (hk : UrgP.key (at_ r i) = k) (hb : ∀ d, d < i → UrgP.key (at_ r d) ≠ k) : idx r k = i := by
  have : posOf r k = some i := by
    unfold posOf
    rw [List.findIdx?_eq_some_iff_getElem]
    refine ⟨hi, ?_, fun d hd => ?_⟩
    · have := at_eq (List.getElem?_eq_getElem hi)
      rw [← this]; simpa using hk
    · have h1 := hb d hd
      rw [at_eq (List.getElem?_eq_getElem (show d < r.length by omega))] at h1
      simpa using h1
  unfold idx
  rw [this]
theorem idx_no {r : List Job} {k : Int × Int} (hb : ∀ d, d < r.length → UrgP.key (at_ r d) ≠ k) : idx r k = -1 := by
  have : posOf r k = none := by
    unfold posOf
    rw [List.findIdx?_eq_none_iff]
    intro x hx
    obtain ⟨d, hd, he⟩ := List.getElem_of_mem hx
    have h1 := hb d hd
    rw [at_eq (by rw [List.getElem?_eq_getElem hd, he])] at h1
    simpa using h1
  unfold idx
  rw [this]
set_option maxRecDepth 100000 in
set_option maxHeartbeats 1000000 in
theorem index_calls (A : Option Addr) (n c : Nat) (r : List Job) (o s : Int) (w : World) (h : RowJ w A n c r) (hn : n ≤ 1000000) :
    Calls Try.prog 20 #[.slice A n c, .int .u32 o, .int .u16 s] w fun e w' => e = .returned (.int .i64 (idx r (o, s))) ∧ w = w' := by
  have HR := Lib.hid h
  have HLE := Lib.hid h.len
  clear h
  obtain ⟨x, hx⟩ : ∃ x, x = idx r (o, s) := ⟨_, rfl⟩
  have HX := Lib.hid hx
  rw [← hx]
  clear hx
  go_enter Try.func20, Try.ntmps20
  go_wp2_with fail
  go_loop [7] (fun i => ∃ k : Nat, i = .int .i64 k ∧ k ≤ n ∧ Hid (∀ d, d < k → UrgP.key (at_ r d) ≠ (o, s))) (fun i => n - (intOf i).toNat)
  case atStart => exact ⟨0, rfl, Nat.zero_le _, Lib.hid fun d hd => by omega⟩
  case round =>
    obtain ⟨k, rfl, hk, HB⟩ := hrel
    by_cases hlt : k < n
    · have hkr : k < r.length := by rw [HLE.out]; exact hlt
      obtain ⟨_, ad, rfl, c0, c1, _⟩ := HR.out.at_ k _ (at_get hkr)
      obtain ⟨j, hj⟩ : ∃ j, j = at_ r k := ⟨_, rfl⟩
      rw [← hj] at c0 c1
      have HJ := Lib.hid hj
      clear hj hkr
      by_cases ho : j.o = o
      · by_cases hs : j.s = s
        · go_wp2_with fail
          go_ret
          refine ⟨?_, rfl⟩
          have := idx_at (r := r) (k := (o, s)) (i := k) (by rw [HLE.out]; exact hlt) (by rw [← HJ.out]; show (j.o, j.s) = (o, s); rw [ho, hs]) HB.out
          rw [HX.out, this]
          rfl
        · go_wp2_with fail
          go_round
          case rel => exact ⟨k + 1, by go_num, by omega, Lib.hid fun d hd => by
            by_cases hdk : d = k
            · subst hdk; rw [← HJ.out]; exact fun e => hs (Prod.mk.inj e).2
            · exact HB.out d (by omega)⟩
          case measure => (simp [intOf]; try omega)
      · go_wp2_with fail
        go_round
        case rel => exact ⟨k + 1, by go_num, by omega, Lib.hid fun d hd => by
          by_cases hdk : d = k
          · subst hdk; rw [← HJ.out]; exact fun e => ho (Prod.mk.inj e).1
          · exact HB.out d (by omega)⟩
        case measure => (simp [intOf]; try omega)
    · obtain rfl : k = n := by omega
      go_wp2_with fail
      go_ret
      refine ⟨?_, rfl⟩
      rw [HX.out, idx_no (fun d hd => HB.out d (by rw [HLE.out] at hd; exact hd))]
      rfl
end Go.Proofs.Ytipmkddcdnbihaa.Urg
