/- The law's operations: what is not too much. -/
import Derived.Test.YtfhgjopoohfhjaaTableP
import Derived.Test.YtfhgjopoohfhjaaShapeW
namespace Go.Proofs.Ytfhgjopoohfhjaa.Tbl
open Go.RowKit Base Step Vec Shape Erase
/-- An operation out of its data. -/
def opOf (d : opS.T) : Op := ⟨d.1, d.2.1, d.2.2.1, d.2.2.2.1.1, d.2.2.2.1.2.1, d.2.2.2.1.2.2.1, d.2.2.2.2.1.1, d.2.2.2.2.1.2.1, d.2.2.2.2.1.2.2.1, d.2.2.2.2.1.2.2.2, d.2.2.2.2.2.1, d.2.2.2.2.2.2.1, d.2.2.2.2.2.2.2.1.1, d.2.2.2.2.2.2.2.1.2.1⟩
structure OpCell (w : World) (ad : Addr) (i : Nat) (o : Op) : Prop where
  c0 : w.cell? (ad.add (i * 11)) = some (.int .i64 o.kind)
  c1 : w.cell? ⟨(ad.add (i * 11)).block, (ad.add (i * 11)).off + 1, none⟩ = some (.int .u32 o.num)
  c2 : w.cell? ⟨(ad.add (i * 11)).block, (ad.add (i * 11)).off + 2, none⟩ = some (.string o.name)
  c3 : w.cell? ⟨(ad.add (i * 11)).block, (ad.add (i * 11)).off + 3, none⟩ = some (.int .i64 o.l)
  c4 : w.cell? ⟨(ad.add (i * 11)).block, (ad.add (i * 11)).off + 4, none⟩ = some (.int .i64 o.c)
  c5 : w.cell? ⟨(ad.add (i * 11)).block, (ad.add (i * 11)).off + 5, none⟩ = some (.int .i64 o.p)
  c6 : w.cell? ⟨(ad.add (i * 11)).block, (ad.add (i * 11)).off + 6, none⟩ = some (.slice o.A o.n o.cap)
  c7 : w.cell? ⟨(ad.add (i * 11)).block, (ad.add (i * 11)).off + 7, none⟩ = some (.int .i64 o.stripe)
  c8 : w.cell? ⟨(ad.add (i * 11)).block, (ad.add (i * 11)).off + 8, none⟩ = some (.int .i64 o.slot)
  c9 : w.cell? ⟨(ad.add (i * 11)).block, (ad.add (i * 11)).off + 9, none⟩ = some (.int .i64 o.node)
  c10 : w.cell? ⟨(ad.add (i * 11)).block, (ad.add (i * 11)).off + 10, none⟩ = some (.int .u32 o.gen)
theorem OpCell.ext {w w' : World} {ad : Addr} {i : Nat} {o : Op} (h : OpCell w ad i o) (he : Ext w w') : OpCell w' ad i o :=
  ⟨he.cell_ h.c0, he.cell_ h.c1, he.cell_ h.c2, he.cell_ h.c3, he.cell_ h.c4, he.cell_ h.c5, he.cell_ h.c6, he.cell_ h.c7, he.cell_ h.c8, he.cell_ h.c9, he.cell_ h.c10⟩
theorem op_at {w : World} {A : Option Addr} {n c : Nat} {l : List opS.T} (h : (Sh.sl opS).ok w (A, n, c, l)) {i : Nat} (hi : i < n) : ∃ ad d, A = some ad ∧ l[i]? = some d ∧ OpCell w ad i (opOf d) ∧ opS.ok w d := by
  obtain ⟨h1, h2, h3, h4, h5⟩ : l.length = n ∧ n ≤ c ∧ c ≤ maxLen ∧ (A = none → c = 0) ∧ ∀ (i : Nat) (x : opS.T), l[i]? = some x → opS.ok w x ∧ ∃ ad, A = some ad ∧ ∀ (j : Nat) u, (opS.cells x)[j]? = some u → w.cell? (ad.add (i * opS.size + j)) = some u := h
  obtain ⟨d, hd⟩ : ∃ d, l[i]? = some d := ⟨_, List.getElem?_eq_getElem (by omega)⟩
  obtain ⟨hok, ad, rfl, hc⟩ := h5 i d hd
  have hsz : opS.size = 11 := rfl
  have hcl : opS.cells d = opL (opOf d) := rfl
  rw [hsz, hcl] at hc
  have e0 := hc 0 _ rfl
  have e1 := hc 1 _ rfl
  have e2 := hc 2 _ rfl
  have e3 := hc 3 _ rfl
  have e4 := hc 4 _ rfl
  have e5 := hc 5 _ rfl
  have e6 := hc 6 _ rfl
  have e7 := hc 7 _ rfl
  have e8 := hc 8 _ rfl
  have e9 := hc 9 _ rfl
  have e10 := hc 10 _ rfl
  rw [← add_of_add] at e1 e2 e3 e4 e5 e6 e7 e8 e9 e10
  rw [Nat.add_zero] at e0
  exact ⟨ad, d, rfl, hd, ⟨e0, e1, e2, e3, e4, e5, e6, e7, e8, e9, e10⟩, hok⟩
/-- What an operation's data asks, apart. -/
theorem op_ok {w : World} {d : opS.T} (h : opS.ok w d) : (Lit.int .u32 (opOf d).num).wf = true ∧ (Lit.int .i64 (opOf d).l).wf = true ∧ (Lit.int .i64 (opOf d).c).wf = true ∧ (Lit.int .i64 (opOf d).p).wf = true ∧ (Sh.sl rowS).ok w ((opOf d).A, (opOf d).n, (opOf d).cap, (opOf d).rows) ∧ (Lit.int .i64 (opOf d).node).wf = true ∧ (Lit.int .u32 (opOf d).gen).wf = true := by
  obtain ⟨_, h2, _, hp, hr, _, _, hq, _⟩ : (Lit.int .i64 d.1).wf = true ∧ (Lit.int .u32 d.2.1).wf = true ∧ d.2.2.1.size ≤ maxLen ∧ planS.ok w d.2.2.2.1 ∧ plcS.ok w d.2.2.2.2.1 ∧ (Lit.int .i64 d.2.2.2.2.2.1).wf = true ∧ (Lit.int .i64 d.2.2.2.2.2.2.1).wf = true ∧ plS.ok w d.2.2.2.2.2.2.2.1 ∧ True := h
  obtain ⟨p1, p2, p3, _⟩ : (Lit.int .i64 d.2.2.2.1.1).wf = true ∧ (Lit.int .i64 d.2.2.2.1.2.1).wf = true ∧ (Lit.int .i64 d.2.2.2.1.2.2.1).wf = true ∧ True := hp
  obtain ⟨q1, q2, _⟩ : (Lit.int .i64 d.2.2.2.2.2.2.2.1.1).wf = true ∧ (Lit.int .u32 d.2.2.2.2.2.2.2.1.2.1).wf = true ∧ True := hq
  exact ⟨h2, p1, p2, p3, hr, q1, q2⟩
/-- What a slice of operations weighs at most: its rows. -/
theorem op_small {A : Option Addr} {n c : Nat} {l : List opS.T} (h : (Sh.sl opS).small Try.prog 98 (A, n, c, l)) : ∀ d ∈ l, ∀ r ∈ (opOf d).rows, rN r ≤ 8796093021952 := fun d hd r hr => by
  have h1 := (h _ Try.underlying98).2 d hd
  have h2 := h1 _ Try.underlying116
  have h3 : (plcS).small Try.prog 112 d.2.2.2.2.1 := h2.2.2.2.2.1
  have h4 := (h3 _ Try.underlying112).2 r hr
  have h5 := (h4 _ Try.underlying212).1
  have hb : (Try.prog).bytesOf 114 = 16 := by kernel_rfl
  rw [hb] at h5
  have h5 : rN r * 16 ≤ 140737488351232 := h5
  omega
/-- Operations that are not too much. -/
structure Light (n : Nat) (l : List opS.T) : Prop where
  len : n ≤ 30
  each : ∀ d ∈ l, (opOf d).n ≤ 40 ∧ (opOf d).name.size ≤ 200
set_option maxRecDepth 100000 in
set_option maxHeartbeats 8000000 in
theorem light_calls (A : Option Addr) (n c : Nat) (l : List opS.T) (w : World) (h : (Sh.sl opS).ok w (A, n, c, l)) :
    Calls Try.prog 60 #[.slice A n c] w fun e w' => Ext w w' ∧ ∃ b : Bool, e = .returned (.bool b) ∧ (b = true → Light n l) := by
  obtain ⟨Q, hQ⟩ : ∃ Q : Ending → World → Prop, Q = fun e w' => Ext w w' ∧ ∃ b : Bool, e = .returned (.bool b) ∧ (b = true → Light n l) := ⟨_, rfl⟩
  have HQ := Lib.hid hQ
  rw [← hQ]
  clear hQ
  have hnc := (sl_len h).2.1
  have hcm := (sl_len h).2.2.1
  have hl := (sl_len h).1
  have H := Lib.hid h
  have HL := Lib.hid hl
  have hno : ∀ W, Ext w W → Q (.returned (.bool false)) W := fun W he => by rw [HQ.out]; exact ⟨he, false, rfl, fun k => by cases k⟩
  have HNO := Lib.hid hno
  clear h hno hl
  go_enter Try.func60, Try.ntmps60
  go_wp2_with fail
  go_loopg [3, 4] n (fun g s i wr => ∃ (k : Nat) (x : Nat), k ≤ n ∧ k ≤ 30 ∧ x ≤ 40000 * k ∧ g = n - k ∧ i = .int .i64 (k : Nat) ∧ s = .int .i64 (x : Nat) ∧ Hid (Ext w wr) ∧ Hid (∀ i d, i < k → l[i]? = some d → (opOf d).n ≤ 40 ∧ (opOf d).name.size ≤ 200))
  case atStart => exact ⟨0, 0, Nat.zero_le _, Nat.zero_le _, Nat.le_refl _, rfl, rfl, rfl, Lib.hid (Ext.refl _), Lib.hid fun i d h => by omega⟩
  case round =>
    obtain ⟨k, x, hk, hk30, hx, rfl, rfl, rfl, HX, HA⟩ := hrel
    have hd30 : ((k : Nat) : Int) < 30 ∨ k = 30 := by omega
    by_cases hlt : k < n ∧ k < 30
    · obtain ⟨hlt, hlt30⟩ := hlt
      obtain ⟨ad, d, rfl, hd0, hcl, hok⟩ := op_at H.out hlt
      obtain ⟨_, _, _, _, hrows, _, _⟩ := op_ok hok
      have hrnc := (sl_len hrows).2.1
      have hrcm := (sl_len hrows).2.2.1
      have HCL := Lib.hid hcl
      have HROWS := Lib.hid hrows
      have HD := Lib.hid hd0
      have hc2 := (hcl.ext HX.out).c2
      have hc6 := (hcl.ext HX.out).c6
      have hki : ((k : Nat) : Int) < ((n : Nat) : Int) := by omega
      have hk3 : ((k : Nat) : Int) < 30 := by omega
      clear hcl hrows hok hd0 hd30
      by_cases h40 : (opOf d).n ≤ 40
      · by_cases h200 : (opOf d).name.size ≤ 200
        · have g1 : ¬ ((40 : Int) < ((opOf d).n : Int)) := by omega
          have g2 : ¬ ((200 : Int) < ((opOf d).name.size : Int)) := by omega
          obtain ⟨wo, hwo⟩ : ∃ wo, wo = wr := ⟨_, rfl⟩
          subst hwo
          go_wp2_with fail
          clear hc2 hc6
          go_loopg [3, 5] (opOf d).n (fun g s j wi => ∃ (m : Nat) (y : Nat), m ≤ (opOf d).n ∧ y ≤ 40000 * k + 1000 * m ∧ g = (opOf d).n - m ∧ j = .int .i64 (m : Nat) ∧ s = .int .i64 (y : Nat) ∧ Hid (Ext w wi))
          case atStart => exact ⟨0, x, Nat.zero_le _, by omega, rfl, rfl, rfl, HX⟩
          case round =>
            clear HX
            obtain ⟨m, y, hm, hy, rfl, rfl, rfl, HX⟩ := hrel
            have hc6 := (HCL.out.ext HX.out).c6
            by_cases hlt2 : m < (opOf d).n
            · obtain ⟨ap, r, hAp, hr0, hcell, hrok⟩ := row_at HROWS.out hlt2
              rw [hAp] at hc6
              have q0 := HX.out.cell_ hcell
              have hmr : ((m : Nat) : Int) < (((opOf d).n : Nat) : Int) := by omega
              clear hcell hrok hr0
              by_cases h1000 : rN r ≤ 1000
              · have g3 : min ((rN r : Nat) : Int) 1000 = ((rN r : Nat) : Int) := by omega
                go_wp2_with fail
                go_roundg ((opOf d).n - (m + 1))
                case measure => omega
                case rel => exact ⟨m + 1, y + rN r, by omega, by omega, rfl, by first | rfl | go_num, by first | rfl | go_num, HX⟩
              · have g3 : min ((rN r : Nat) : Int) 1000 = 1000 := by omega
                go_wp2_with fail
                go_roundg ((opOf d).n - (m + 1))
                case measure => omega
                case rel => exact ⟨m + 1, y + 1000, by omega, by omega, rfl, by first | rfl | go_num, by first | rfl | go_num, HX⟩
            · obtain rfl : m = (opOf d).n := by omega
              go_wp2_with fail
              go_roundg (n - (k + 1))
              case measure => omega
              case rel => exact ⟨k + 1, y, by omega, by omega, by omega, rfl, by first | rfl | go_num, rfl, HX, Lib.hid fun i d2 hi hd2 => by
                by_cases hik : i = k
                · subst hik
                  rw [HD.out] at hd2
                  cases hd2
                  exact ⟨h40, h200⟩
                · exact HA.out i d2 (by omega) hd2⟩
        · have g1 : ¬ ((40 : Int) < ((opOf d).n : Int)) := by omega
          have g2 : (200 : Int) < ((opOf d).name.size : Int) := by omega
          go_wp2_with fail
          exact HNO.out _ HX.out
      · have g1 : (40 : Int) < ((opOf d).n : Int) := by omega
        go_wp2_with fail
        exact HNO.out _ HX.out
    · have hfin : Q (.returned (.bool (decide ((n : Int) ≤ 30) && decide ((x : Int) ≤ 1000)))) wr := by
        rw [HQ.out]
        refine ⟨HX.out, _, rfl, fun hb => ?_⟩
        simp only [Bool.and_eq_true, decide_eq_true_eq] at hb
        have hkn : k = n := by omega
        exact ⟨by omega, fun d hd => by
          obtain ⟨i, hi, hid⟩ := List.getElem_of_mem hd
          exact HA.out i d (by rw [hkn, ← HL.out]; exact hi) (by rw [List.getElem?_eq_getElem hi, hid])⟩
      have HFIN := Lib.hid hfin
      clear hfin
      by_cases hkn : k < n
      · obtain rfl : k = 30 := by omega
        have hki : ((30 : Nat) : Int) < ((n : Nat) : Int) := by omega
        have hn30 : ¬ ((n : Int) ≤ 30) := by omega
        clear hlt hd30
        go_wp2_with fail
        exact HNO.out _ HX.out
      · obtain rfl : k = n := by omega
        have hn30 : ((k : Nat) : Int) ≤ 30 := by omega
        clear hlt hd30
        have hf2 := HFIN.out
        rw [decide_eq_true hn30, Bool.true_and] at hf2
        have HF2 := Lib.hid hf2
        clear hf2
        go_wp2_with fail
        exact HF2.out
end Go.Proofs.Ytfhgjopoohfhjaa.Tbl
