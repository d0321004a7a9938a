/- Which names and which plans may be, walked. -/
import Derived.Test.YtfhgjopoohfhjaaTableF
import Derived.WalkSpells
import Derived.WalkLawsBesides
namespace Go.Proofs.Ytfhgjopoohfhjaa.Tbl
open Go.RowKit Base Step Vec Shape Erase
/-- A name that may be. -/
structure NameOk (s : ByteArray) : Prop where
  each : ∀ i (h : i < s.size), 33 ≤ s[i].toNat ∧ s[i].toNat ≤ 126
  some : 1 ≤ s.size
  few : s.size ≤ 64
set_option maxRecDepth 100000 in
set_option maxHeartbeats 2000000 in
theorem rightName_calls (s : ByteArray) (w : World) (hs : s.size ≤ 140737488355328) : Calls Try.prog 172 #[.string s] w (Says w (NameOk s)) := by
  go_enter Try.func172, Try.ntmps172
  go_wp2_with fail
  go_loop [3, 6] (fun _ i => ∃ j : Nat, i = .int .i64 j ∧ j ≤ s.size ∧ Hid (∀ i (h : i < s.size), i < j → 33 ≤ s[i].toNat ∧ s[i].toNat ≤ 126)) (fun _ i => s.size - (intOf i).toNat)
  case atStart => exact ⟨0, rfl, Nat.zero_le _, Lib.hid fun i h k => by omega⟩
  case round =>
    obtain ⟨j, rfl, hj, HA⟩ := hrel
    by_cases hlt : j < s.size
    · by_cases hb : 33 ≤ s[j].toNat ∧ s[j].toNat ≤ 126
      · have HB := Lib.hid hb
        have h1 : ¬ ((s[j].toNat : Int) ≤ 32) := by omega
        have h2 : ¬ ((126 : Int) < (s[j].toNat : Int)) := by omega
        clear hb
        go_wp2_with fail
        go_round
        case rel => exact ⟨j + 1, by go_num, by omega, Lib.hid fun i h k => by
          by_cases hij : i = j
          · subst hij
            exact HB.out
          · exact HA.out i h (by omega)⟩
        case measure => (simp [intOf]; try omega)
      · have HB : Hid (¬ NameOk s) := Lib.hid fun h => hb (h.each j hlt)
        have hor : s[j].toNat ≤ 32 ∨ (¬ s[j].toNat ≤ 32 ∧ 126 < s[j].toNat) := by omega
        clear hb
        rcases hor with h1 | ⟨h0, h1⟩
        · have h1 : (s[j].toNat : Int) ≤ 32 := by omega
          go_wp2_with fail
          go_ret
          exact says_no (Ext.refl _) HB.out
        · have h2 : ¬ ((s[j].toNat : Int) ≤ 32) := by omega
          have h1 : (126 : Int) < (s[j].toNat : Int) := by omega
          clear h0
          go_wp2_with fail
          go_ret
          exact says_no (Ext.refl _) HB.out
    · obtain rfl : j = s.size := by omega
      by_cases h1 : (1 : Int) ≤ (s.size : Nat)
      · go_wp2_with fail
        go_ret
        refine says_if (Ext.refl _) ⟨fun hh => ⟨fun i h => HA.out i h h, by omega, ?_⟩, fun hr => ?_⟩
        · have hh : decide ((s.size : Int) ≤ 64) = true := hh
          have := of_decide_eq_true hh
          omega
        · have := hr.few
          exact decide_eq_true (by omega)
      · go_wp2_with fail
        go_ret
        exact says_no (Ext.refl _) fun h => by have := h.some; omega
/-- An operation, raw. -/
abbrev opS : Sh := .st (.cons (.int .i64) (.cons (.int .u32) (.cons .str (.cons planS (.cons plcS (.cons (.int .i64) (.cons (.int .i64) (.cons plS .nil))))))))
/-- An operation's parts. -/
structure Op where
  kind : Int
  num : Int
  name : ByteArray
  l : Int
  c : Int
  p : Int
  A : Option Addr
  n : Nat
  cap : Nat
  rows : List Row
  stripe : Int
  slot : Int
  node : Int
  gen : Int
abbrev opC (o : Op) : Array Value := #[.int .i64 o.kind, .int .u32 o.num, .string o.name, .int .i64 o.l, .int .i64 o.c, .int .i64 o.p, .slice o.A o.n o.cap, .int .i64 o.stripe, .int .i64 o.slot, .int .i64 o.node, .int .u32 o.gen]
abbrev opV (o : Op) : Value := .agg #[.int .i64 o.kind, .int .u32 o.num, .string o.name, .int .i64 o.l, .int .i64 o.c, .int .i64 o.p, .slice o.A o.n o.cap, .int .i64 o.stripe, .int .i64 o.slot, .int .i64 o.node, .int .u32 o.gen]
/-- A plan that may be, and its places. -/
structure PlanOk (sl nd : Nat) (o : Op) : Prop where
  l0 : 0 ≤ o.l
  l1 : o.l ≤ 16384
  c0 : 0 ≤ o.c
  c1 : o.c ≤ 32
  p0 : 1 ≤ o.p
  p1 : o.p ≤ 256
  n : (o.n : Int) = o.c
  rows : ∀ r ∈ o.rows, Right sl nd (rP r)
theorem row_at {w : World} {A : Option Addr} {n c : Nat} {l : List Row} (h : (Sh.sl rowS).ok w (A, n, c, l)) {i : Nat} (hi : i < n) : ∃ ad r, A = some ad ∧ l[i]? = some r ∧ w.cell? (ad.add i) = some (.slice (rA r) (rN r) (rC r)) ∧ (Sh.sl plS).ok w (rA r, rN r, rC r, rP r) := by
  have hl := (sl_len h).1
  obtain ⟨r, hr⟩ : ∃ r, l[i]? = some r := ⟨_, List.getElem?_eq_getElem (by omega)⟩
  have h5 : ∀ (i : Nat) (x : Row), l[i]? = some x → rowS.ok w x ∧ ∃ ad, A = some ad ∧ ∀ (j : Nat) u, (rowS.cells x)[j]? = some u → w.cell? (ad.add (i * rowS.size + j)) = some u := h.2.2.2.2
  obtain ⟨hok, ad, rfl, hc⟩ := h5 i r hr
  have e0 := hc 0 (.slice (rA r) (rN r) (rC r)) rfl
  rw [show i * rowS.size + 0 = i by simp [Sh.size]] at e0
  exact ⟨ad, r, rfl, hr, e0, hok⟩
set_option maxRecDepth 100000 in
set_option maxHeartbeats 4000000 in
theorem plan_calls (gt sl nd : Nat) (nx ls : Int) (A : Option Addr) (n c : Nat) (objs : List Obj) (o : Op) (w : World) (h : TblAt w gt sl nd nx ls A n c objs) (ho : (Sh.sl rowS).ok w (o.A, o.n, o.cap, o.rows)) (hnd : nd ≤ 32) (hm : o.n ≤ 1099511627776) (hr : ∀ r ∈ o.rows, rN r ≤ 8796093021952) :
    Calls Try.prog 173 #[.pointer (some ⟨gt, 0, none⟩), opV o] w (Says w (PlanOk sl nd o)) := by
  have H := Lib.hid h
  have HO := Lib.hid ho
  have HR := Lib.hid hr
  have HN := Lib.hid (sl_len ho).1
  have hmc := (sl_len ho).2.1
  have e0 := Lib.hid (Ext.new w (.cells (opC o) 120))
  have hb := at_new w (.cells (opC o) 120)
  clear h ho hr
  go_enter Try.func173, Try.ntmps173
  go_upto_region 1 with fail
  generalize w.alloc (.cells (opC o) 120) = w1 at *
  have HB := Lib.hid hb
  have b3 : w1.cell? ⟨w.heap.size, 3, none⟩ = some (.int .i64 o.l) := blk_cell (i := 3) hb (Ext.refl _) rfl
  have b4 : w1.cell? ⟨w.heap.size, 4, none⟩ = some (.int .i64 o.c) := blk_cell (i := 4) hb (Ext.refl _) rfl
  have b5 : w1.cell? ⟨w.heap.size, 5, none⟩ = some (.int .i64 o.p) := blk_cell (i := 5) hb (Ext.refl _) rfl
  clear hb
  go_upto_region 2 with fail
  have hp := at_new w1 (.cells #[.int .i64 o.l, .int .i64 o.c, .int .i64 o.p] 105)
  have e2 := Lib.hid (e0.out.alloc (.cells #[.int .i64 o.l, .int .i64 o.c, .int .i64 o.p] 105))
  have hb2 := (Ext.new w1 (.cells #[.int .i64 o.l, .int .i64 o.c, .int .i64 o.p] 105)).at_ HB.out
  generalize w1.alloc (.cells #[.int .i64 o.l, .int .i64 o.c, .int .i64 o.p] 105) = w2 at *
  have p0 : w2.cell? ⟨w1.heap.size, 0, none⟩ = some (.int .i64 o.l) := blk_cell (i := 0) hp (Ext.refl _) rfl
  have p1 : w2.cell? ⟨w1.heap.size, 1, none⟩ = some (.int .i64 o.c) := blk_cell (i := 1) hp (Ext.refl _) rfl
  have p2 : w2.cell? ⟨w1.heap.size, 2, none⟩ = some (.int .i64 o.p) := blk_cell (i := 2) hp (Ext.refl _) rfl
  have b6 : w2.cell? ⟨w.heap.size, 6, none⟩ = some (.slice o.A o.n o.cap) := blk_cell (i := 6) hb2 (Ext.refl _) rfl
  clear b3 b4 b5 hp
  by_cases hall : 0 ≤ o.l ∧ o.l ≤ 16384 ∧ 0 ≤ o.c ∧ o.c ≤ 32 ∧ 1 ≤ o.p ∧ o.p ≤ 256 ∧ (o.n : Int) = o.c
  · have HALL := Lib.hid hall
    obtain ⟨g1, g2, g3, g4, g5, g6, g7⟩ := hall
    have n1 : ¬ o.l < 0 := by omega
    have n2 : ¬ 16384 < o.l := by omega
    have n3 : ¬ o.c < 0 := by omega
    have n4 : ¬ 32 < o.c := by omega
    have n5 : ¬ o.p < 1 := by omega
    have n6 : ¬ 256 < o.p := by omega
    have n7 : ((o.n : Int) != o.c) = false := by rw [g7]; simp
    clear g1 g2 g3 g4 g5 g6 g7
    go_wp2_with fail
    clear n1 n2 n3 n4 n5 n6 n7 p0 p1 p2 b6
    generalize hOA : o.A = OA at HO ⊢
    go_loopg [7, 49] o.n (fun g _ i wr => ∃ k : Nat, k ≤ o.n ∧ g = o.n - k ∧ i = .int .i64 k ∧ Hid (Ext w wr ∧ ∀ r ∈ o.rows.take k, Right sl nd (rP r)))
    case atStart => exact ⟨0, Nat.zero_le _, rfl, rfl, Lib.hid ⟨e2.out, by simp⟩⟩
    case round =>
      obtain ⟨k, hk, rfl, rfl, hrel⟩ := hrel
      obtain ⟨hex, hok⟩ := hrel.out
      have HX := Lib.hid hex
      have HK := Lib.hid hok
      clear hrel hex hok
      by_cases hlt : k < o.n
      · obtain ⟨ad, r, rfl, hr, hcell, hrok⟩ := row_at HO.out hlt
        have q0 := HX.out.cell_ hcell
        have HROK := Lib.hid hrok
        have HRR := Lib.hid hr
        have hrn := HR.out r (List.mem_of_getElem? hr)
        clear hcell hrok hr
        go_wp2_with fail
        refine (right_calls gt sl nd nx ls A n c objs (rA r) (rN r) (rC r) (rP r) wr (H.out.ext HX.out) (Sh.ok_ext HX.out _ _ HROK.out) hnd hrn).mono ?_
        rintro e w5 ⟨he5, b, rfl, hbr⟩
        have HX5 := Lib.hid (HX.out.trans he5)
        have HBR := Lib.hid hbr
        clear he5 hbr q0
        cases b with
        | false =>
          go_wp2_with fail
          go_ret
          exact says_no HX5.out fun hp => by
            have h1 := HBR.out.2 (hp.rows r (List.mem_of_getElem? HRR.out))
            cases h1
        | true =>
          go_wp2_with fail
          go_roundg (o.n - (k + 1))
          case measure => omega
          case rel => exact ⟨k + 1, by omega, rfl, by first | rfl | go_num, Lib.hid ⟨HX5.out, fun q hq => by
            rw [List.take_add_one, HRR.out] at hq
            rcases List.mem_append.1 hq with hq | hq
            · exact HK.out q hq
            · simp at hq
              subst hq
              have h1 := HBR.out
              simpa using h1⟩⟩
      · obtain rfl : k = o.n := by omega
        go_wp2_with fail
        go_ret
        have hk := HK.out
        rw [List.take_of_length_le (by rw [HN.out]; exact Nat.le_refl _)] at hk
        obtain ⟨g1, g2, g3, g4, g5, g6, g7⟩ := HALL.out
        exact says_yes HX.out ⟨g1, g2, g3, g4, g5, g6, g7, hk⟩
  · have HBAD : Hid (¬ PlanOk sl nd o) := Lib.hid fun hp => hall ⟨hp.l0, hp.l1, hp.c0, hp.c1, hp.p0, hp.p1, hp.n⟩
    have hb : (decide (o.l < 0) || decide (16384 < o.l) || decide (o.c < 0) || decide (32 < o.c) || decide (o.p < 1) || decide (256 < o.p) || ((o.n : Int) != o.c)) = true := by
      simp only [Bool.or_eq_true, decide_eq_true_eq, bne_iff_ne, ne_eq]
      omega
    clear hall
    go_wp2_with fail
    all_goals
      go_ret
      exact says_no e2.out HBAD.out
end Go.Proofs.Ytfhgjopoohfhjaa.Tbl
