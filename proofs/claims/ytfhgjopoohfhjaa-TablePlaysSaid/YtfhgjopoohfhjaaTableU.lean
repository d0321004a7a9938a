/- The document's tables: which object has a name, or a number; which places, plans, names may be; walked. -/
import Derived.Test.YtfhgjopoohfhjaaTableT
namespace Go.Proofs.Ytfhgjopoohfhjaa.Tbl
open Go.RowKit Base Step Vec Shape Erase
abbrev tabC (sl nd : Nat) (t : Tb) : Array Value := #[.int .i64 sl, .int .i64 nd, .int .u32 t.nx, .int .u32 t.ls, .slice t.A t.n t.c]
abbrev tabV (sl nd : Nat) (t : Tb) : Value := .agg #[.int .i64 sl, .int .i64 nd, .int .u32 t.nx, .int .u32 t.ls, .slice t.A t.n t.c]
/-- The document's table reads so. -/
abbrev Doc (w : World) (t : Tb) : Prop := (Sh.sl objS).ok w (t.A, t.n, t.c, t.objs)
theorem str_yes {a b : ByteArray} (h : a = b) : (a.toList == b.toList) = true := by rw [h]; simp
theorem str_no {a b : ByteArray} (h : a ≠ b) : (a.toList == b.toList) = false := by
  cases hh : a.toList == b.toList with
  | false => rfl
  | true =>
    have h1 : a.toList = b.toList := by simpa using hh
    rw [ByteArray.toList_eq, ByteArray.toList_eq] at h1
    exact absurd (ByteArray.ext (Array.ext' h1)) h
/-- The first place from i on at which a name is; below 0: nowhere. -/
def nameFrom (s : ByteArray) : List Obj → Nat → Int
  | [], _ => -1
  | o :: l, i => if name o = s then i else nameFrom s l (i + 1)
def nameAt (objs : List Obj) (s : ByteArray) : Int := nameFrom s objs 0
set_option maxRecDepth 100000 in
set_option maxHeartbeats 2000000 in
theorem rFind_calls (sl nd : Nat) (t : Tb) (s : ByteArray) (w : World) (h : Doc w t) (hn : t.n ≤ 1099511627776) :
    Calls Try.prog 137 #[tabV sl nd t, .string s] w fun e w' => e = .returned (.int .i64 (nameAt t.objs s)) ∧ Ext w w' := by
  obtain ⟨nx, ls, A, n, c, objs⟩ := t
  have hn : n ≤ 1099511627776 := hn
  have h : (Sh.sl objS).ok w (A, n, c, objs) := h
  obtain ⟨hl, hnc, _, _⟩ := sl_len h
  have H := Lib.hid h
  have HL := Lib.hid hl
  have e0 := Lib.hid (Ext.new w (.cells #[.int .i64 sl, .int .i64 nd, .int .u32 nx, .int .u32 ls, .slice A n c] 149))
  have hb := at_new w (.cells #[.int .i64 sl, .int .i64 nd, .int .u32 nx, .int .u32 ls, .slice A n c] 149)
  clear h hl
  go_enter Try.func137, Try.ntmps137
  go_upto_region 1 with fail
  generalize w.alloc (.cells #[.int .i64 sl, .int .i64 nd, .int .u32 nx, .int .u32 ls, .slice A n c] 149) = w1 at *
  have HB := Lib.hid hb
  clear hb
  go_wp2_with fail
  go_loopg [5] n (fun g i wr => ∃ a : Nat, a ≤ n ∧ g = n - a ∧ i = .int .i64 a ∧ Hid (nameFrom s (objs.drop a) a = nameAt objs s) ∧ Hid (Ext w1 wr))
  case atStart => exact ⟨0, Nat.zero_le _, rfl, rfl, Lib.hid rfl, Lib.hid (Ext.refl _)⟩
  case round =>
    obtain ⟨a, han, rfl, rfl, HN, HX⟩ := hrel
    have b4 : wr.cell? ⟨w.heap.size, 4, none⟩ = some (.slice A n c) := blk_cell (i := 4) HB.out HX.out rfl
    by_cases hlt : a < n
    · obtain ⟨ad, o, rfl, ho, hat, _⟩ := obj_at H.out hlt
      obtain ⟨c0, c1, c2, c3, c4, c5⟩ := (hat.ext e0.out).ext HX.out
      have hst := HN.out
      have hal : a < objs.length := by rw [HL.out]; exact hlt
      rw [List.drop_eq_getElem_cons hal] at hst
      have hoe : objs[a] = o := by rw [List.getElem?_eq_getElem hal] at ho; exact Option.some.inj ho
      rw [hoe] at hst
      unfold nameFrom at hst
      have HST := Lib.hid hst
      clear hat ho hst HN hoe hal
      by_cases hk : name o = s
      · have hst := HST.out
        rw [if_pos hk] at hst
        have HS2 := Lib.hid hst
        have hd := str_yes hk
        clear hst hk HST
        go_wp2_with fail
        go_ret
        exact ⟨by rw [← HS2.out]; rfl, e0.out.trans HX.out⟩
      · have hst := HST.out
        rw [if_neg hk] at hst
        have HS2 := Lib.hid hst
        have hd := str_no hk
        clear hst hk HST
        go_wp2_with fail
        go_roundg (n - (a + 1))
        case measure => omega
        case rel => exact ⟨a + 1, by omega, rfl, by first | rfl | go_num, HS2, HX⟩
    · obtain rfl : a = n := by omega
      have hst := HN.out
      rw [List.drop_of_length_le (by rw [HL.out]; exact Nat.le_refl _)] at hst
      have HS2 : Hid (-1 = nameAt objs s) := Lib.hid hst
      clear hst HN
      go_wp2_with fail
      go_ret
      exact ⟨by rw [← HS2.out]; rfl, e0.out.trans HX.out⟩
set_option maxRecDepth 100000 in
set_option maxHeartbeats 2000000 in
theorem rNumbered_calls (sl nd : Nat) (t : Tb) (k : Int) (w : World) (h : Doc w t) (hn : t.n ≤ 1099511627776) :
    Calls Try.prog 192 #[tabV sl nd t, .int .u32 k] w fun e w' => e = .returned (.int .i64 (numAt t.objs k)) ∧ Ext w w' := by
  obtain ⟨nx, ls, A, n, c, objs⟩ := t
  have hn : n ≤ 1099511627776 := hn
  have h : (Sh.sl objS).ok w (A, n, c, objs) := h
  obtain ⟨hl, hnc, _, _⟩ := sl_len h
  have H := Lib.hid h
  have HL := Lib.hid hl
  have e0 := Lib.hid (Ext.new w (.cells #[.int .i64 sl, .int .i64 nd, .int .u32 nx, .int .u32 ls, .slice A n c] 149))
  have hb := at_new w (.cells #[.int .i64 sl, .int .i64 nd, .int .u32 nx, .int .u32 ls, .slice A n c] 149)
  clear h hl
  go_enter Try.func192, Try.ntmps192
  go_upto_region 1 with fail
  generalize w.alloc (.cells #[.int .i64 sl, .int .i64 nd, .int .u32 nx, .int .u32 ls, .slice A n c] 149) = w1 at *
  have HB := Lib.hid hb
  clear hb
  go_wp2_with fail
  go_loopg [5] n (fun g i wr => ∃ a : Nat, a ≤ n ∧ g = n - a ∧ i = .int .i64 a ∧ Hid (numFrom k (objs.drop a) a = numAt objs k) ∧ Hid (Ext w1 wr))
  case atStart => exact ⟨0, Nat.zero_le _, rfl, rfl, Lib.hid rfl, Lib.hid (Ext.refl _)⟩
  case round =>
    obtain ⟨a, han, rfl, rfl, HN, HX⟩ := hrel
    have b4 : wr.cell? ⟨w.heap.size, 4, none⟩ = some (.slice A n c) := blk_cell (i := 4) HB.out HX.out rfl
    by_cases hlt : a < n
    · obtain ⟨ad, o, rfl, ho, hat, _⟩ := obj_at H.out hlt
      obtain ⟨c0, c1, c2, c3, c4, c5⟩ := (hat.ext e0.out).ext HX.out
      have hst := HN.out
      have hal : a < objs.length := by rw [HL.out]; exact hlt
      rw [List.drop_eq_getElem_cons hal] at hst
      have hoe : objs[a] = o := by rw [List.getElem?_eq_getElem hal] at ho; exact Option.some.inj ho
      rw [hoe] at hst
      unfold numFrom at hst
      have HST := Lib.hid hst
      clear hat ho hst HN hoe hal
      by_cases hk : num o = k
      · have hst := HST.out
        rw [if_pos hk] at hst
        have HS2 := Lib.hid hst
        have hd : (num o == k) = true := by simp [hk]
        clear hst hk HST
        go_wp2_with fail
        go_ret
        exact ⟨by rw [← HS2.out]; rfl, e0.out.trans HX.out⟩
      · have hst := HST.out
        rw [if_neg hk] at hst
        have HS2 := Lib.hid hst
        have hd : (num o == k) = false := by simp [hk]
        clear hst hk HST
        go_wp2_with fail
        go_roundg (n - (a + 1))
        case measure => omega
        case rel => exact ⟨a + 1, by omega, rfl, by first | rfl | go_num, HS2, HX⟩
    · obtain rfl : a = n := by omega
      have hst := HN.out
      rw [List.drop_of_length_le (by rw [HL.out]; exact Nat.le_refl _)] at hst
      have HS2 : Hid (-1 = numAt objs k) := Lib.hid hst
      clear hst HN
      go_wp2_with fail
      go_ret
      exact ⟨by rw [← HS2.out]; rfl, e0.out.trans HX.out⟩
set_option maxRecDepth 100000 in
set_option maxHeartbeats 2000000 in
theorem rRightName_calls (s : ByteArray) (w : World) (hs : s.size ≤ 140737488355328) : Calls Try.prog 190 #[.string s] w (Says w (NameOk s)) := by
  go_enter Try.func190, Try.ntmps190
  go_wp2_with fail
  go_loop [3] (fun i => ∃ j : Nat, i = .int .i64 j ∧ j ≤ s.size ∧ j ≤ 65 ∧ Hid (∀ i (h : i < s.size), i < j → 33 ≤ s[i].toNat ∧ s[i].toNat ≤ 126)) (fun i => s.size - (intOf i).toNat)
  case atStart => exact ⟨0, rfl, Nat.zero_le _, Nat.zero_le _, Lib.hid fun i h k => by omega⟩
  case round =>
    obtain ⟨j, rfl, hj, hj65, HA⟩ := hrel
    by_cases hlt : j < s.size
    · by_cases hlt65 : j < 65
      · have hk65 : ((j : Nat) : Int) < 65 := by omega
        by_cases hb : 33 ≤ s[j].toNat ∧ s[j].toNat ≤ 126
        · have HB := Lib.hid hb
          have h1 : ¬ ((s[j].toNat : Int) < 33) := by omega
          have h2 : ¬ ((126 : Int) < (s[j].toNat : Int)) := by omega
          clear hb
          go_wp2_with fail
          go_round
          case rel => exact ⟨j + 1, by go_num, by omega, by omega, Lib.hid fun i h k => by
            by_cases hij : i = j
            · subst hij
              exact HB.out
            · exact HA.out i h (by omega)⟩
          case measure => (simp [intOf]; try omega)
        · have HB : Hid (¬ NameOk s) := Lib.hid fun h => hb (h.each j hlt)
          have hor : s[j].toNat < 33 ∨ (¬ s[j].toNat < 33 ∧ 126 < s[j].toNat) := by omega
          clear hb
          rcases hor with h1 | ⟨h0, h1⟩
          · have h1 : (s[j].toNat : Int) < 33 := by omega
            go_wp2_with fail
            go_ret
            exact says_no (Ext.refl _) HB.out
          · have h2 : ¬ ((s[j].toNat : Int) < 33) := by omega
            have h1 : (126 : Int) < (s[j].toNat : Int) := by omega
            clear h0
            go_wp2_with fail
            go_ret
            exact says_no (Ext.refl _) HB.out
      · have hk65 : ¬ ((j : Nat) : Int) < 65 := by omega
        have hs65 : ¬ ((s.size : Nat) : Int) < 65 := by omega
        have hs0 : (0 : Int) < ((s.size : Nat) : Int) := by omega
        go_wp2_with fail
        go_ret
        exact says_no (Ext.refl _) fun h => by have := h.few; omega
    · obtain rfl : j = s.size := by omega
      by_cases h1 : (0 : Int) < (s.size : Nat)
      · go_wp2_with fail
        go_ret
        refine says_if (Ext.refl _) ⟨fun hh => ⟨fun i h => HA.out i h h, by omega, ?_⟩, fun hr => ?_⟩
        · have hh : decide ((s.size : Int) < 65) = true := hh
          have := of_decide_eq_true hh
          omega
        · have := hr.few
          exact decide_eq_true (by omega)
      · go_wp2_with fail
        go_ret
        exact says_no (Ext.refl _) fun h => by have := h.some; omega
/-- What the document has looked at: l's first k places. -/
structure Part (nd : Nat) (l : List plS.T) (k : Nat) : Prop where
  on : ∀ p ∈ l.take k, 0 ≤ node p ∧ node p < nd
  apart : ((l.take k).map node).Nodup
theorem Part.snoc {nd : Nat} {l : List plS.T} {k : Nat} {p : plS.T} (h : Part nd l k) (hp : l[k]? = some p) (h0 : 0 ≤ node p) (h1 : node p < nd) (hn : ∀ j q, j < k → l[j]? = some q → node p ≠ node q) : Part nd l (k + 1) := by
  have e : l.take (k + 1) = l.take k ++ [p] := by rw [List.take_add_one, hp]; rfl
  refine ⟨fun q hq => ?_, ?_⟩
  · rw [e] at hq
    rcases List.mem_append.1 hq with hq | hq
    · exact h.on q hq
    · have hq : q = p := by simpa using hq
      subst hq
      exact ⟨h0, h1⟩
  · rw [e, List.map_append, List.nodup_append]
    refine ⟨h.apart, by simp, fun a ha b hb => ?_⟩
    obtain ⟨q, hq, rfl⟩ := List.mem_map.1 ha
    have hb : b = node p := by simpa using hb
    subst hb
    obtain ⟨j, hj, hjq⟩ := List.getElem_of_mem hq
    have hj2 : j < k ∧ j < l.length := by simp at hj; omega
    exact (hn j q hj2.1 (by rw [← hjq, List.getElem_take, List.getElem?_eq_getElem hj2.2])).symm
theorem right_ne {sl nd : Nat} {l : List plS.T} (h : Right sl nd l) {i j : Nat} {p q : plS.T} (hi : l[i]? = some p) (hj : l[j]? = some q) (hij : j < i) : node p ≠ node q := nodup_ne h.apart hi hj hij
set_option maxRecDepth 100000 in
set_option maxHeartbeats 4000000 in
theorem rRight_calls (sl nd : Nat) (t : Tb) (A : Option Addr) (m c : Nat) (l : List plS.T) (w : World) (hl : (Sh.sl plS).ok w (A, m, c, l)) (hm : m ≤ 8796093021952) :
    Calls Try.prog 193 #[tabV sl nd t, .slice A m c] w (Says w (Right sl nd l)) := by
  obtain ⟨nx, ls, tA, n, tc, objs⟩ := t
  have H := Lib.hid hl
  have hmc := (sl_len hl).2.1
  have HN := Lib.hid (sl_len hl).1
  have e0 := Lib.hid (Ext.new w (.cells #[.int .i64 sl, .int .i64 nd, .int .u32 nx, .int .u32 ls, .slice tA n tc] 149))
  have hb := at_new w (.cells #[.int .i64 sl, .int .i64 nd, .int .u32 nx, .int .u32 ls, .slice tA n tc] 149)
  clear hl
  go_enter Try.func193, Try.ntmps193
  go_upto_region 1 with fail
  generalize w.alloc (.cells #[.int .i64 sl, .int .i64 nd, .int .u32 nx, .int .u32 ls, .slice tA n tc] 149) = w1 at *
  have b0 : w1.cell? ⟨w.heap.size, 0, none⟩ = some (.int .i64 sl) := blk_cell (i := 0) hb (Ext.refl _) rfl
  have HB := Lib.hid hb
  clear hb
  by_cases hms : m = sl
  · subst hms
    have hd : (((m : Nat) : Int) != ((m : Nat) : Int)) = false := by simp
    go_wp2_with fail
    go_loopg [5] m (fun g i wr => ∃ k : Nat, k ≤ m ∧ g = m - k ∧ i = .int .i64 k ∧ Hid (Ext w1 wr) ∧ Hid (Part nd l k))
    case atStart => exact ⟨0, Nat.zero_le _, rfl, rfl, Lib.hid (Ext.refl _), Lib.hid ⟨by simp, by simp⟩⟩
    case round =>
      clear b0
      obtain ⟨k, hk, rfl, rfl, HX, HP⟩ := hrel
      by_cases hlt : k < m
      · obtain ⟨ap, p, rfl, hp, hq0, _, _, _⟩ := place_at H.out hlt
        have HPP := Lib.hid hp
        have HQ0 := Lib.hid hq0
        have hb1 : wr.cell? ⟨w.heap.size, 1, none⟩ = some (.int .i64 nd) := blk_cell (i := 1) HB.out HX.out rfl
        have hc0 := (e0.out.trans HX.out).cell_ hq0
        have hrng : ((k : Nat) : Int) < ((m : Nat) : Int) := by omega
        clear hp hq0
        by_cases hbad : node p < 0 ∨ (nd : Int) ≤ node p
        · have HBAD : Hid (¬ Right m nd l) := Lib.hid fun hr => by
            have := hr.on p (List.mem_of_getElem? HPP.out)
            omega
          rcases hbad with h1 | h1
          · have hd1 : decide (node p < 0) = true := decide_eq_true h1
            clear h1
            go_wp2_with fail
            go_quiet (fail)
            have HXN := Lib.hid ((e0.out.trans HX.out).drewN nq)
            go_wp2_with fail
            go_ret
            exact says_no HXN.out HBAD.out
          · have hd1 : decide (node p < 0) = false := decide_eq_false (by omega)
            have hd2 : decide ((nd : Int) ≤ node p) = true := decide_eq_true h1
            clear h1
            go_wp2_with fail
            go_quiet (fail)
            have HXN := Lib.hid ((e0.out.trans HX.out).drewN nq)
            go_wp2_with fail
            go_ret
            exact says_no HXN.out HBAD.out
        · have hd1 : decide (node p < 0) = false := decide_eq_false (by omega)
          have hd2 : decide ((nd : Int) ≤ node p) = false := decide_eq_false (by omega)
          have HG : Hid (0 ≤ node p ∧ node p < nd) := Lib.hid (by omega)
          clear hbad
          go_wp2_with fail
          go_quiet (fail)
          have HXN := Lib.hid (HX.out.drewN nq)
          clear hb1 hc0 hd1 hd2
          generalize wr.drewN nq = wn at *
          go_wp2_with fail
          obtain ⟨wo, hwo⟩ : ∃ wo, wo = wn := ⟨_, rfl⟩
          subst hwo
          go_loopg [6] k (fun g i wi => ∃ j : Nat, j ≤ k ∧ g = k - j ∧ i = .int .i64 j ∧ Hid (Ext w1 wi) ∧ Hid (∀ j' q, j' < j → l[j']? = some q → node p ≠ node q))
          case atStart => exact ⟨0, Nat.zero_le _, rfl, rfl, HXN, Lib.hid fun j' q h => by omega⟩
          case round =>
            clear HX HXN
            obtain ⟨j, hj, rfl, rfl, HX, HJ⟩ := hrel
            by_cases hlt2 : j < k
            · obtain ⟨ap2, q, hA2, hq, hz0, _, _, _⟩ := place_at H.out (i := j) (by omega)
              cases hA2
              have HQ := Lib.hid hq
              have hp0 := (e0.out.trans HX.out).cell_ HQ0.out
              have hq0 := (e0.out.trans HX.out).cell_ hz0
              have hjr : ((j : Nat) : Int) < ((m : Nat) : Int) := by omega
              clear hq hz0
              by_cases he : node p = node q
              · have HBAD : Hid (¬ Right m nd l) := Lib.hid fun hr => right_ne hr HPP.out HQ.out hlt2 he
                have hd3 : (node p == node q) = true := by simp [he]
                clear he
                go_wp2_with fail
                go_quiet (fail)
                have HXN := Lib.hid ((e0.out.trans HX.out).drewN nq)
                go_wp2_with fail
                go_ret
                exact says_no HXN.out HBAD.out
              · have hd3 : (node p == node q) = false := by simp [he]
                have HE := Lib.hid he
                clear he
                go_wp2_with fail
                go_quiet (fail)
                have HXN := Lib.hid (HX.out.drewN nq)
                go_wp2_with fail
                go_roundg (k - (j + 1))
                case measure => omega
                case rel => exact ⟨j + 1, by omega, rfl, by first | rfl | go_num, HXN, Lib.hid fun j' q' hlt' hq' => by
                  by_cases hjj : j' = j
                  · subst hjj
                    rw [HQ.out] at hq'
                    cases hq'
                    exact HE.out
                  · exact HJ.out j' q' (by omega) hq'⟩
            · obtain rfl : j = k := by omega
              have HNEXT := Lib.hid (HP.out.snoc HPP.out HG.out.1 HG.out.2 HJ.out)
              go_wp2_with fail
              go_roundg (m - (j + 1))
              case measure => omega
              case rel => exact ⟨j + 1, by omega, rfl, by first | rfl | go_num, HX, HNEXT⟩
      · obtain rfl : k = m := by omega
        go_wp2_with fail
        go_ret
        have h1 := HP.out.on
        have h2 := HP.out.apart
        rw [List.take_of_length_le (by rw [HN.out]; exact Nat.le_refl _)] at h1 h2
        exact says_yes (e0.out.trans HX.out) ⟨h1, h2, HN.out⟩
  · have hd : (((m : Nat) : Int) != ((sl : Nat) : Int)) = true := by simp; omega
    have HBAD : Hid (¬ Right sl nd l) := Lib.hid fun hr => hms (by rw [← HN.out]; exact hr.all)
    clear hms
    go_wp2_with fail
    go_ret
    exact says_no e0.out HBAD.out
end Go.Proofs.Ytfhgjopoohfhjaa.Tbl
