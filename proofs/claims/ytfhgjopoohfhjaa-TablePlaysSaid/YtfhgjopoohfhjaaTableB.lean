/- The binary search, walked; where an object stands. -/
import Derived.Test.YtfhgjopoohfhjaaTableA
import Derived.Deep.LoopGhost
namespace Go.Proofs.Ytfhgjopoohfhjaa.Tbl
open Go.RowKit Base Step Vec Shape Erase
/-- What is known of an object at its place. -/
structure ObjAt (w : World) (ad : Addr) (i : Nat) (o : Obj) : Prop where
  c0 : w.cell? (ad.add (i * 6)) = some (.int .u32 (num o))
  c1 : w.cell? ⟨(ad.add (i * 6)).block, (ad.add (i * 6)).off + 1, none⟩ = some (.string (name o))
  c2 : w.cell? ⟨(ad.add (i * 6)).block, (ad.add (i * 6)).off + 2, none⟩ = some (.int .i64 (plan o).1)
  c3 : w.cell? ⟨(ad.add (i * 6)).block, (ad.add (i * 6)).off + 3, none⟩ = some (.int .i64 (plan o).2.1)
  c4 : w.cell? ⟨(ad.add (i * 6)).block, (ad.add (i * 6)).off + 4, none⟩ = some (.int .i64 (plan o).2.2.1)
  c5 : w.cell? ⟨(ad.add (i * 6)).block, (ad.add (i * 6)).off + 5, none⟩ = some (.slice (pA o) (pN o) (pC o))
theorem ObjAt.ext {w w' : World} {ad : Addr} {i : Nat} {o : Obj} (h : ObjAt w ad i o) (he : Ext w w') : ObjAt w' ad i o := ⟨he.cell_ h.c0, he.cell_ h.c1, he.cell_ h.c2, he.cell_ h.c3, he.cell_ h.c4, he.cell_ h.c5⟩
theorem obj_at {w : World} {A : Option Addr} {n c : Nat} {objs : List Obj} (h : (Sh.sl objS).ok w (A, n, c, objs)) {i : Nat} (hi : i < n) : ∃ ad o, A = some ad ∧ objs[i]? = some o ∧ ObjAt w ad i o ∧ objS.ok w o := by
  obtain ⟨h1, h2, h3, h4, h5⟩ : objs.length = n ∧ n ≤ c ∧ c ≤ maxLen ∧ (A = none → c = 0) ∧ ∀ (i : Nat) (x : Obj), objs[i]? = some x → objS.ok w x ∧ ∃ ad, A = some ad ∧ ∀ (j : Nat) u, (objS.cells x)[j]? = some u → w.cell? (ad.add (i * objS.size + j)) = some u := h
  obtain ⟨o, ho⟩ : ∃ o, objs[i]? = some o := ⟨_, List.getElem?_eq_getElem (by omega)⟩
  obtain ⟨hok, ad, rfl, hc⟩ := h5 i o ho
  rw [obj_size, obj_cells] at hc
  have e0 := hc 0 _ rfl
  have e1 := hc 1 _ rfl
  have e2 := hc 2 _ rfl
  have e3 := hc 3 _ rfl
  have e4 := hc 4 _ rfl
  have e5 := hc 5 _ rfl
  rw [← add_of_add] at e1 e2 e3 e4 e5
  rw [Nat.add_zero] at e0
  exact ⟨ad, o, rfl, ho, ⟨e0, e1, e2, e3, e4, e5⟩, hok⟩
theorem sl_len {e : Sh} {w : World} {A : Option Addr} {n c : Nat} {l : List e.T} (h : (Sh.sl e).ok w (A, n, c, l)) : l.length = n ∧ n ≤ c ∧ c ≤ 9223372036854775807 ∧ (A = none → c = 0) := by
  obtain ⟨h1, h2, h3, h4, _⟩ : l.length = n ∧ n ≤ c ∧ c ≤ maxLen ∧ (A = none → c = 0) ∧ ∀ (i : Nat) (x : e.T), l[i]? = some x → e.ok w x ∧ ∃ ad, A = some ad ∧ ∀ (j : Nat) u, (e.cells x)[j]? = some u → w.cell? (ad.add (i * e.size + j)) = some u := h
  simp only [maxLen] at h3
  exact ⟨h1, h2, by omega, h4⟩
theorem bs_step (cf : Nat → Int) {a b : Nat} (h : a < b) : bsGo cf (b - a) a b = if cf ((a + b) / 2) < 0 then bsGo cf (b - ((a + b) / 2 + 1)) ((a + b) / 2 + 1) b else bsGo cf ((a + b) / 2 - a) a ((a + b) / 2) := by
  obtain ⟨f, hf⟩ : ∃ f, b - a = f + 1 := ⟨b - a - 1, by omega⟩
  rw [hf, bsGo, if_pos h]
  split
  · exact bsGo_fuel cf _ _ _ _ (by omega) (Nat.le_refl _)
  · exact bsGo_fuel cf _ _ _ _ (by omega) (Nat.le_refl _)
theorem there_yes {objs : List Obj} {s : ByteArray} {o : Obj} (h : objs[place objs s]? = some o) : there objs s = decide (cmpS (name o) s = 0) := by
  unfold there
  rw [h]
theorem there_end {objs : List Obj} {s : ByteArray} (h : objs.length ≤ place objs s) : there objs s = false := by
  unfold there
  rw [List.getElem?_eq_none h]
set_option maxRecDepth 100000 in
set_option maxHeartbeats 2000000 in
theorem search_calls (A : Option Addr) (n c : Nat) (objs : List Obj) (s : ByteArray) (w : World) (h : (Sh.sl objS).ok w (A, n, c, objs)) (hn : n ≤ 1099511627776) :
    Calls Try.prog 167 #[.slice A n c, .string s, .func (.func 168) #[] #[]] w fun e w' => e = .returned (.tuple #[.int .i64 (place objs s), .bool (there objs s)]) ∧ Ext w w' := by
  obtain ⟨hl, hnc, _, _⟩ := sl_len h
  have H := Lib.hid h
  have HL := Lib.hid hl
  clear h hl
  go_enter Try.func167, Try.ntmps167
  go_wp2_with fail
  go_loopg [9, 10, 11] n (fun g i j _ wr => ∃ a b : Nat, a ≤ b ∧ b ≤ n ∧ g = b - a ∧ i = .int .i64 a ∧ j = .int .i64 b ∧ Hid (bsGo (fun h => match objs[h]? with | some o => cmpS (name o) s | none => 0) (b - a) a b = place objs s) ∧ Hid (Ext w wr))
  case atStart => exact ⟨0, n, Nat.zero_le _, Nat.le_refl _, rfl, rfl, rfl, Lib.hid (by unfold place; rw [HL.out]; rfl), Lib.hid (Ext.refl _)⟩
  case round =>
    obtain ⟨a, b, hab, hbn, rfl, rfl, rfl, HB, HX⟩ := hrel
    by_cases hlt : a < b
    · obtain ⟨ad, o, rfl, ho, hat, _⟩ := obj_at H.out (i := (a + b) / 2) (by omega)
      have hat' := hat.ext HX.out
      obtain ⟨c0, c1, c2, c3, c4, c5⟩ := hat'
      have HO := Lib.hid ho
      clear hat ho
      have hst := HB.out
      rw [bs_step _ hlt] at hst
      simp only [HO.out] at hst
      have HST := Lib.hid hst
      clear hst HB
      go_wp2_with fail
      refine (cmp_calls o s wr).mono ?_
      rintro e w4 ⟨rfl, he4⟩
      have HX4 := Lib.hid (HX.out.trans he4)
      clear he4 c0 c1 c2 c3 c4 c5
      have hst := HST.out
      by_cases hz : cmpS (name o) s < 0
      · rw [if_pos hz] at hst
        have HST2 := Lib.hid hst
        clear hst
        go_wp2_with fail
        go_roundg (b - ((a + b) / 2 + 1))
        case measure => omega
        case rel => exact ⟨(a + b) / 2 + 1, b, by omega, hbn, rfl, by first | rfl | go_num, rfl, HST2, HX4⟩
      · rw [if_neg hz] at hst
        have HST2 := Lib.hid hst
        clear hst
        go_wp2_with fail
        go_roundg ((a + b) / 2 - a)
        case measure => omega
        case rel => exact ⟨a, (a + b) / 2, by omega, by omega, rfl, rfl, by first | rfl | go_num, HST2, HX4⟩
    · obtain rfl : a = b := by omega
      have hst := HB.out
      rw [bsGo_done _ _ (Nat.le_refl _)] at hst
      by_cases han : a < n
      · obtain ⟨ad, o, rfl, ho, hat, _⟩ := obj_at H.out (i := a) han
        have hat' := hat.ext HX.out
        obtain ⟨c0, c1, c2, c3, c4, c5⟩ := hat'
        have HTH := Lib.hid (there_yes (s := s) (o := o) (by rw [← hst]; exact ho))
        have HST := Lib.hid hst
        clear hat ho hst HB
        go_wp2_with fail
        refine (cmp_calls o s wr).mono ?_
        rintro e w4 ⟨rfl, he4⟩
        have HX4 := Lib.hid (HX.out.trans he4)
        clear he4
        go_wp2_with fail
        go_ret2
        refine ⟨?_, HX4.out⟩
        rw [HTH.out, ← HST.out]
        have hd : (cmpS (name o) s == 0) = decide (cmpS (name o) s = 0) := by
          by_cases h0 : cmpS (name o) s = 0 <;> simp [h0]
        rw [← hd]
        rfl
      · have HTH := Lib.hid (there_end (objs := objs) (s := s) (by rw [← hst, HL.out]; omega))
        have HST := Lib.hid hst
        clear hst HB
        go_wp2_with fail
        go_ret2
        exact ⟨by rw [HTH.out, ← HST.out]; rfl, HX.out⟩
end Go.Proofs.Ytfhgjopoohfhjaa.Tbl
