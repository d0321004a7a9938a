/- Texts put together: TableU, LexR, TableV, TableX, TableY. Contracts and plain facts, no condition but what each says. -/
import Derived.Deep.CutBlock
import Derived.Test.YtipmkddcdnbihaaBk4
/- The document's tables: which object has a name, or a number; which places, plans, names may be; walked. -/
namespace Go.Proofs.Ytipmkddcdnbihaa.Tbl
open Go.RowKit Base Step Vec Shape Erase
abbrev tabC (sl nd : Nat) (t : Tb) : Array Value := #[.int .i64 sl, .int .i64 nd, .int .u32 t.nx, .int .u32 t.ls, .slice t.A t.n t.c]
abbrev tabV (sl nd : Nat) (t : Tb) : Value := .agg #[.int .i64 sl, .int .i64 nd, .int .u32 t.nx, .int .u32 t.ls, .slice t.A t.n t.c]
/-- The document's table reads so. -/
abbrev Doc (w : World) (t : Tb) : Prop := (Sh.sl objS).ok w (t.A, t.n, t.c, t.objs)
theorem str_yes {a b : ByteArray} (h : a = b) : (a.toList == b.toList) = true := by rw [h]; simp
theorem str_no {a b : ByteArray} (h : a ≠ b) : (a.toList == b.toList) = false := by
  cases hh : a.toList == b.toList with
  | false => rfl
  | true =>
    have h1 : a.toList = b.toList := by simpa using hh
    rw [ByteArray.toList_eq, ByteArray.toList_eq] at h1
    exact absurd (ByteArray.ext (Array.ext' h1)) h
/-- The first place from i on at which a name is; below 0: nowhere. -/
def nameFrom (s : ByteArray) : List Obj → Nat → Int
  | [], _ => -1
  | o :: l, i => if name o = s then i else nameFrom s l (i + 1)
def nameAt (objs : List Obj) (s : ByteArray) : Int := nameFrom s objs 0
set_option maxRecDepth 100000 in
set_option maxHeartbeats 2000000 in
theorem rFind_calls (sl nd : Nat) (t : Tb) (s : ByteArray) (w : World) (h : Doc w t) (hn : t.n ≤ 1099511627776) :
    Calls Try.prog 97 #[tabV sl nd t, .string s] w fun e w' => e = .returned (.int .i64 (nameAt t.objs s)) ∧ Ext w w' := by
  obtain ⟨nx, ls, A, n, c, objs⟩ := t
  have hn : n ≤ 1099511627776 := hn
  have h : (Sh.sl objS).ok w (A, n, c, objs) := h
  obtain ⟨hl, hnc, _, _⟩ := sl_len h
  have H := Lib.hid h
  have HL := Lib.hid hl
  have e0 := Lib.hid (Ext.new w (.cells #[.int .i64 sl, .int .i64 nd, .int .u32 nx, .int .u32 ls, .slice A n c] 95))
  have hb := at_new w (.cells #[.int .i64 sl, .int .i64 nd, .int .u32 nx, .int .u32 ls, .slice A n c] 95)
  clear h hl
  go_enter Try.func97, Try.ntmps97
  go_upto_region 1 with fail
  generalize w.alloc (.cells #[.int .i64 sl, .int .i64 nd, .int .u32 nx, .int .u32 ls, .slice A n c] 95) = w1 at *
  have HB := Lib.hid hb
  clear hb
  go_wp2_with fail
  go_loopg [5] n (fun g i wr => ∃ a : Nat, a ≤ n ∧ g = n - a ∧ i = .int .i64 a ∧ Hid (nameFrom s (objs.drop a) a = nameAt objs s) ∧ Hid (Ext w1 wr))
  case atStart => exact ⟨0, Nat.zero_le _, rfl, rfl, Lib.hid rfl, Lib.hid (Ext.refl _)⟩
  case round =>
    obtain ⟨a, han, rfl, rfl, HN, HX⟩ := hrel
    have b4 : wr.cell? ⟨w.heap.size, 4, none⟩ = some (.slice A n c) := blk_cell (i := 4) HB.out HX.out rfl
    by_cases hlt : a < n
    · obtain ⟨ad, o, rfl, ho, hat, _⟩ := obj_at H.out hlt
      obtain ⟨c0, c1, c2, c3, c4, c5⟩ := (hat.ext e0.out).ext HX.out
      have hst := HN.out
      have hal : a < objs.length := by rw [HL.out]; exact hlt
      rw [List.drop_eq_getElem_cons hal] at hst
      have hoe : objs[a] = o := by rw [List.getElem?_eq_getElem hal] at ho; exact Option.some.inj ho
      rw [hoe] at hst
      unfold nameFrom at hst
      have HST := Lib.hid hst
      clear hat ho hst HN hoe hal
      by_cases hk : name o = s
      · have hst := HST.out
        rw [if_pos hk] at hst
        have HS2 := Lib.hid hst
        have hd := str_yes hk
        clear hst hk HST
        go_wp2_with fail
        go_ret
        exact ⟨by rw [← HS2.out]; rfl, e0.out.trans HX.out⟩
      · have hst := HST.out
        rw [if_neg hk] at hst
        have HS2 := Lib.hid hst
        have hd := str_no hk
        clear hst hk HST
        go_wp2_with fail
        go_roundg (n - (a + 1))
        case measure => omega
        case rel => exact ⟨a + 1, by omega, rfl, by first | rfl | go_num, HS2, HX⟩
    · obtain rfl : a = n := by omega
      have hst := HN.out
      rw [List.drop_of_length_le (by rw [HL.out]; exact Nat.le_refl _)] at hst
      have HS2 : Hid (-1 = nameAt objs s) := Lib.hid hst
      clear hst HN
      go_wp2_with fail
      go_ret
      exact ⟨by rw [← HS2.out]; rfl, e0.out.trans HX.out⟩
set_option maxRecDepth 100000 in
set_option maxHeartbeats 2000000 in
theorem rNumbered_calls (sl nd : Nat) (t : Tb) (k : Int) (w : World) (h : Doc w t) (hn : t.n ≤ 1099511627776) :
    Calls Try.prog 171 #[tabV sl nd t, .int .u32 k] w fun e w' => e = .returned (.int .i64 (numAt t.objs k)) ∧ Ext w w' := by
  obtain ⟨nx, ls, A, n, c, objs⟩ := t
  have hn : n ≤ 1099511627776 := hn
  have h : (Sh.sl objS).ok w (A, n, c, objs) := h
  obtain ⟨hl, hnc, _, _⟩ := sl_len h
  have H := Lib.hid h
  have HL := Lib.hid hl
  have e0 := Lib.hid (Ext.new w (.cells #[.int .i64 sl, .int .i64 nd, .int .u32 nx, .int .u32 ls, .slice A n c] 95))
  have hb := at_new w (.cells #[.int .i64 sl, .int .i64 nd, .int .u32 nx, .int .u32 ls, .slice A n c] 95)
  clear h hl
  go_enter Try.func171, Try.ntmps171
  go_upto_region 1 with fail
  generalize w.alloc (.cells #[.int .i64 sl, .int .i64 nd, .int .u32 nx, .int .u32 ls, .slice A n c] 95) = w1 at *
  have HB := Lib.hid hb
  clear hb
  go_wp2_with fail
  go_loopg [5] n (fun g i wr => ∃ a : Nat, a ≤ n ∧ g = n - a ∧ i = .int .i64 a ∧ Hid (numFrom k (objs.drop a) a = numAt objs k) ∧ Hid (Ext w1 wr))
  case atStart => exact ⟨0, Nat.zero_le _, rfl, rfl, Lib.hid rfl, Lib.hid (Ext.refl _)⟩
  case round =>
    obtain ⟨a, han, rfl, rfl, HN, HX⟩ := hrel
    have b4 : wr.cell? ⟨w.heap.size, 4, none⟩ = some (.slice A n c) := blk_cell (i := 4) HB.out HX.out rfl
    by_cases hlt : a < n
    · obtain ⟨ad, o, rfl, ho, hat, _⟩ := obj_at H.out hlt
      obtain ⟨c0, c1, c2, c3, c4, c5⟩ := (hat.ext e0.out).ext HX.out
      have hst := HN.out
      have hal : a < objs.length := by rw [HL.out]; exact hlt
      rw [List.drop_eq_getElem_cons hal] at hst
      have hoe : objs[a] = o := by rw [List.getElem?_eq_getElem hal] at ho; exact Option.some.inj ho
      rw [hoe] at hst
      unfold numFrom at hst
      have HST := Lib.hid hst
      clear hat ho hst HN hoe hal
      by_cases hk : num o = k
      · have hst := HST.out
        rw [if_pos hk] at hst
        have HS2 := Lib.hid hst
        have hd : (num o == k) = true := by simp [hk]
        clear hst hk HST
        go_wp2_with fail
        go_ret
        exact ⟨by rw [← HS2.out]; rfl, e0.out.trans HX.out⟩
      · have hst := HST.out
        rw [if_neg hk] at hst
        have HS2 := Lib.hid hst
        have hd : (num o == k) = false := by simp [hk]
        clear hst hk HST
        go_wp2_with fail
        go_roundg (n - (a + 1))
        case measure => omega
        case rel => exact ⟨a + 1, by omega, rfl, by first | rfl | go_num, HS2, HX⟩
    · obtain rfl : a = n := by omega
      have hst := HN.out
      rw [List.drop_of_length_le (by rw [HL.out]; exact Nat.le_refl _)] at hst
      have HS2 : Hid (-1 = numAt objs k) := Lib.hid hst
      clear hst HN
      go_wp2_with fail
      go_ret
      exact ⟨by rw [← HS2.out]; rfl, e0.out.trans HX.out⟩
set_option maxRecDepth 100000 in
set_option maxHeartbeats 2000000 in
theorem rRightName_calls (s : ByteArray) (w : World) (hs : s.size ≤ 140737488355328) : Calls Try.prog 169 #[.string s] w (Says w (NameOk s)) := by
  go_enter Try.func169, Try.ntmps169
  go_wp2_with fail
  go_loop [3] (fun i => ∃ j : Nat, i = .int .i64 j ∧ j ≤ s.size ∧ j ≤ 65 ∧ Hid (∀ i (h : i < s.size), i < j → 33 ≤ s[i].toNat ∧ s[i].toNat ≤ 126)) (fun i => s.size - (intOf i).toNat)
  case atStart => exact ⟨0, rfl, Nat.zero_le _, Nat.zero_le _, Lib.hid fun i h k => by omega⟩
  case round =>
    obtain ⟨j, rfl, hj, hj65, HA⟩ := hrel
    by_cases hlt : j < s.size
    · by_cases hlt65 : j < 65
      · have hk65 : ((j : Nat) : Int) < 65 := by omega
        by_cases hb : 33 ≤ s[j].toNat ∧ s[j].toNat ≤ 126
        · have HB := Lib.hid hb
          have h1 : ¬ ((s[j].toNat : Int) < 33) := by omega
          have h2 : ¬ ((126 : Int) < (s[j].toNat : Int)) := by omega
          clear hb
          go_wp2_with fail
          go_round
          case rel => exact ⟨j + 1, by go_num, by omega, by omega, Lib.hid fun i h k => by
            by_cases hij : i = j
            · subst hij
              exact HB.out
            · exact HA.out i h (by omega)⟩
          case measure => (simp [intOf]; try omega)
        · have HB : Hid (¬ NameOk s) := Lib.hid fun h => hb (h.each j hlt)
          have hor : s[j].toNat < 33 ∨ (¬ s[j].toNat < 33 ∧ 126 < s[j].toNat) := by omega
          clear hb
          rcases hor with h1 | ⟨h0, h1⟩
          · have h1 : (s[j].toNat : Int) < 33 := by omega
            go_wp2_with fail
            go_ret
            exact says_no (Ext.refl _) HB.out
          · have h2 : ¬ ((s[j].toNat : Int) < 33) := by omega
            have h1 : (126 : Int) < (s[j].toNat : Int) := by omega
            clear h0
            go_wp2_with fail
            go_ret
            exact says_no (Ext.refl _) HB.out
      · have hk65 : ¬ ((j : Nat) : Int) < 65 := by omega
        have hs65 : ¬ ((s.size : Nat) : Int) < 65 := by omega
        have hs0 : (0 : Int) < ((s.size : Nat) : Int) := by omega
        go_wp2_with fail
        go_ret
        exact says_no (Ext.refl _) fun h => by have := h.few; omega
    · obtain rfl : j = s.size := by omega
      by_cases h1 : (0 : Int) < (s.size : Nat)
      · go_wp2_with fail
        go_ret
        refine says_if (Ext.refl _) ⟨fun hh => ⟨fun i h => HA.out i h h, by omega, ?_⟩, fun hr => ?_⟩
        · have hh : decide ((s.size : Int) < 65) = true := hh
          have := of_decide_eq_true hh
          omega
        · have := hr.few
          exact decide_eq_true (by omega)
      · go_wp2_with fail
        go_ret
        exact says_no (Ext.refl _) fun h => by have := h.some; omega
/-- What the document has looked at: l's first k places. -/
structure Part (nd : Nat) (l : List plS.T) (k : Nat) : Prop where
  on : ∀ p ∈ l.take k, 0 ≤ node p ∧ node p < nd
  apart : ((l.take k).map node).Nodup
theorem Part.snoc {nd : Nat} {l : List plS.T} {k : Nat} {p : plS.T} (h : Part nd l k) (hp : l[k]? = some p) (h0 : 0 ≤ node p) (h1 : node p < nd) (hn : ∀ j q, j < k → l[j]? = some q → node p ≠ node q) : Part nd l (k + 1) := by
  have e : l.take (k + 1) = l.take k ++ [p] := by rw [List.take_add_one, hp]; rfl
  refine ⟨fun q hq => ?_, ?_⟩
  · rw [e] at hq
    rcases List.mem_append.1 hq with hq | hq
    · exact h.on q hq
    · have hq : q = p := by simpa using hq
      subst hq
      exact ⟨h0, h1⟩
  · rw [e, List.map_append, List.nodup_append]
    refine ⟨h.apart, by simp, fun a ha b hb => ?_⟩
    obtain ⟨q, hq, rfl⟩ := List.mem_map.1 ha
    have hb : b = node p := by simpa using hb
    subst hb
    obtain ⟨j, hj, hjq⟩ := List.getElem_of_mem hq
    have hj2 : j < k ∧ j < l.length := by simp at hj; omega
    exact (hn j q hj2.1 (by rw [← hjq, List.getElem_take, List.getElem?_eq_getElem hj2.2])).symm
theorem right_ne {sl nd : Nat} {l : List plS.T} (h : Right sl nd l) {i j : Nat} {p q : plS.T} (hi : l[i]? = some p) (hj : l[j]? = some q) (hij : j < i) : node p ≠ node q := nodup_ne h.apart hi hj hij
set_option maxRecDepth 100000 in
set_option maxHeartbeats 4000000 in
theorem rRight_calls (sl nd : Nat) (t : Tb) (A : Option Addr) (m c : Nat) (l : List plS.T) (w : World) (hl : (Sh.sl plS).ok w (A, m, c, l)) (hm : m ≤ 8796093021952) :
    Calls Try.prog 172 #[tabV sl nd t, .slice A m c] w (Says w (Right sl nd l)) := by
  obtain ⟨nx, ls, tA, n, tc, objs⟩ := t
  have H := Lib.hid hl
  have hmc := (sl_len hl).2.1
  have HN := Lib.hid (sl_len hl).1
  have e0 := Lib.hid (Ext.new w (.cells #[.int .i64 sl, .int .i64 nd, .int .u32 nx, .int .u32 ls, .slice tA n tc] 95))
  have hb := at_new w (.cells #[.int .i64 sl, .int .i64 nd, .int .u32 nx, .int .u32 ls, .slice tA n tc] 95)
  clear hl
  go_enter Try.func172, Try.ntmps172
  go_upto_region 1 with fail
  generalize w.alloc (.cells #[.int .i64 sl, .int .i64 nd, .int .u32 nx, .int .u32 ls, .slice tA n tc] 95) = w1 at *
  have b0 : w1.cell? ⟨w.heap.size, 0, none⟩ = some (.int .i64 sl) := blk_cell (i := 0) hb (Ext.refl _) rfl
  have HB := Lib.hid hb
  clear hb
  by_cases hms : m = sl
  · subst hms
    have hd : (((m : Nat) : Int) != ((m : Nat) : Int)) = false := by simp
    go_wp2_with fail
    go_loopg [5] m (fun g i wr => ∃ k : Nat, k ≤ m ∧ g = m - k ∧ i = .int .i64 k ∧ Hid (Ext w1 wr) ∧ Hid (Part nd l k))
    case atStart => exact ⟨0, Nat.zero_le _, rfl, rfl, Lib.hid (Ext.refl _), Lib.hid ⟨by simp, by simp⟩⟩
    case round =>
      clear b0
      obtain ⟨k, hk, rfl, rfl, HX, HP⟩ := hrel
      by_cases hlt : k < m
      · obtain ⟨ap, p, rfl, hp, hq0, _, _, _⟩ := place_at H.out hlt
        have HPP := Lib.hid hp
        have HQ0 := Lib.hid hq0
        have hb1 : wr.cell? ⟨w.heap.size, 1, none⟩ = some (.int .i64 nd) := blk_cell (i := 1) HB.out HX.out rfl
        have hc0 := (e0.out.trans HX.out).cell_ hq0
        have hrng : ((k : Nat) : Int) < ((m : Nat) : Int) := by omega
        clear hp hq0
        by_cases hbad : node p < 0 ∨ (nd : Int) ≤ node p
        · have HBAD : Hid (¬ Right m nd l) := Lib.hid fun hr => by
            have := hr.on p (List.mem_of_getElem? HPP.out)
            omega
          rcases hbad with h1 | h1
          · have hd1 : decide (node p < 0) = true := decide_eq_true h1
            clear h1
            go_wp2_with fail
            go_quiet (fail)
            have HXN := Lib.hid ((e0.out.trans HX.out).drewN nq)
            go_wp2_with fail
            go_ret
            exact says_no HXN.out HBAD.out
          · have hd1 : decide (node p < 0) = false := decide_eq_false (by omega)
            have hd2 : decide ((nd : Int) ≤ node p) = true := decide_eq_true h1
            clear h1
            go_wp2_with fail
            go_quiet (fail)
            have HXN := Lib.hid ((e0.out.trans HX.out).drewN nq)
            go_wp2_with fail
            go_ret
            exact says_no HXN.out HBAD.out
        · have hd1 : decide (node p < 0) = false := decide_eq_false (by omega)
          have hd2 : decide ((nd : Int) ≤ node p) = false := decide_eq_false (by omega)
          have HG : Hid (0 ≤ node p ∧ node p < nd) := Lib.hid (by omega)
          clear hbad
          go_wp2_with fail
          go_quiet (fail)
          have HXN := Lib.hid (HX.out.drewN nq)
          clear hb1 hc0 hd1 hd2
          generalize wr.drewN nq = wn at *
          go_wp2_with fail
          obtain ⟨wo, hwo⟩ : ∃ wo, wo = wn := ⟨_, rfl⟩
          subst hwo
          go_loopg [6] k (fun g i wi => ∃ j : Nat, j ≤ k ∧ g = k - j ∧ i = .int .i64 j ∧ Hid (Ext w1 wi) ∧ Hid (∀ j' q, j' < j → l[j']? = some q → node p ≠ node q))
          case atStart => exact ⟨0, Nat.zero_le _, rfl, rfl, HXN, Lib.hid fun j' q h => by omega⟩
          case round =>
            clear HX HXN
            obtain ⟨j, hj, rfl, rfl, HX, HJ⟩ := hrel
            by_cases hlt2 : j < k
            · obtain ⟨ap2, q, hA2, hq, hz0, _, _, _⟩ := place_at H.out (i := j) (by omega)
              cases hA2
              have HQ := Lib.hid hq
              have hp0 := (e0.out.trans HX.out).cell_ HQ0.out
              have hq0 := (e0.out.trans HX.out).cell_ hz0
              have hjr : ((j : Nat) : Int) < ((m : Nat) : Int) := by omega
              clear hq hz0
              by_cases he : node p = node q
              · have HBAD : Hid (¬ Right m nd l) := Lib.hid fun hr => right_ne hr HPP.out HQ.out hlt2 he
                have hd3 : (node p == node q) = true := by simp [he]
                clear he
                go_wp2_with fail
                go_quiet (fail)
                have HXN := Lib.hid ((e0.out.trans HX.out).drewN nq)
                go_wp2_with fail
                go_ret
                exact says_no HXN.out HBAD.out
              · have hd3 : (node p == node q) = false := by simp [he]
                have HE := Lib.hid he
                clear he
                go_wp2_with fail
                go_quiet (fail)
                have HXN := Lib.hid (HX.out.drewN nq)
                go_wp2_with fail
                go_roundg (k - (j + 1))
                case measure => omega
                case rel => exact ⟨j + 1, by omega, rfl, by first | rfl | go_num, HXN, Lib.hid fun j' q' hlt' hq' => by
                  by_cases hjj : j' = j
                  · subst hjj
                    rw [HQ.out] at hq'
                    cases hq'
                    exact HE.out
                  · exact HJ.out j' q' (by omega) hq'⟩
            · obtain rfl : j = k := by omega
              have HNEXT := Lib.hid (HP.out.snoc HPP.out HG.out.1 HG.out.2 HJ.out)
              go_wp2_with fail
              go_roundg (m - (j + 1))
              case measure => omega
              case rel => exact ⟨j + 1, by omega, rfl, by first | rfl | go_num, HX, HNEXT⟩
      · obtain rfl : k = m := by omega
        go_wp2_with fail
        go_ret
        have h1 := HP.out.on
        have h2 := HP.out.apart
        rw [List.take_of_length_le (by rw [HN.out]; exact Nat.le_refl _)] at h1 h2
        exact says_yes (e0.out.trans HX.out) ⟨h1, h2, HN.out⟩
  · have hd : (((m : Nat) : Int) != ((sl : Nat) : Int)) = true := by simp; omega
    have HBAD : Hid (¬ Right sl nd l) := Lib.hid fun hr => hms (by rw [← HN.out]; exact hr.all)
    clear hms
    go_wp2_with fail
    go_ret
    exact says_no e0.out HBAD.out
end Go.Proofs.Ytipmkddcdnbihaa.Tbl
/- A region that draws its order and lays rows, some of which later operations of the region take over and write (append(append(x, ..), ..)): walked once, in an order of one's own. What an operation takes over nobody else reads. No program in sight. -/
namespace Go.Proofs.Ytipmkddcdnbihaa.Lex
open Base
/-- What is known of a value, and what it reads as in a world, out of blocks f. -/
structure LooseR where
  T : Value → Prop
  R : Value → (Nat → Prop) → World → Prop
structure LooseR.Ok (lo : Nat → Prop) (s : LooseR) : Prop where
  ne : ∃ v, s.T v
  st : ∀ v f W W' S, s.R v f W → Chg S W W' → (∀ i, f i → ¬ S i) → (∀ i, S i → lo i) → s.R v f W'
/-- The worlds in which the region's operations may come up: what of the old may be written (lo) beside what is laid. -/
structure EnvR (E : World → World → Prop) (lo : Nat → Prop) (w0 : World) : Prop where
  refl : E w0 w0
  step : ∀ W W' S, E w0 W → Chg S W W' → (∀ i, S i → lo i) → E w0 W'
  new : ∀ W i, E w0 W → W.heap.size ≤ i → lo i
def updG (G : Nat → Nat → Prop) (j : Nat) (f : Nat → Prop) : Nat → Nat → Prop := fun n i => G n i ∨ (n = j ∧ f i)
/-- The blocks that operation j takes over. -/
def CF (L : List (Nat × Nat)) (j : Nat) (G : Nat → Nat → Prop) : Nat → Prop := fun i => ∃ d, (j, d) ∈ L ∧ G d i
/-- Nobody but j takes n's value over. -/
def freeB (L : List (Nat × Nat)) (n j : Nat) : Bool := L.all fun p => decide (p.2 ≠ n) || decide (p.1 = j)
def notC (L : List (Nat × Nat)) (n : Nat) : Bool := L.all fun p => decide (p.2 ≠ n)
def liveR (L : List (Nat × Nat)) (listed : Array Bool) (n : Nat) : Prop := ∀ p ∈ L, p.2 = n → listed.getD p.1 false = false
theorem freeB_spec {L : List (Nat × Nat)} {n j : Nat} (h : freeB L n j = true) {p : Nat × Nat} (hp : p ∈ L) (hn : p.2 = n) : p.1 = j := by
  have := List.all_eq_true.1 h p hp
  simp only [Bool.or_eq_true, decide_eq_true_eq] at this
  exact this.resolve_left fun k => k hn
theorem notC_live {L : List (Nat × Nat)} {n : Nat} {listed : Array Bool} (h : notC L n = true) : liveR L listed n := fun p hp hn => by
  have := List.all_eq_true.1 h p hp
  simp only [decide_eq_true_eq] at this
  exact absurd hn this
theorem updG_comm (G : Nat → Nat → Prop) (i j : Nat) (r s : Nat → Prop) : updG (updG G i r) j s = updG (updG G j s) i r := by
  funext n k
  simp only [updG, or_assoc]
  rw [or_comm (a := n = i ∧ r k)]
section
variable {P : Program} {ops : Array Oper} {md : Region.Mode} {E : World → World → Prop} {lo : Nat → Prop} {w0 : World} {L : List (Nat × Nat)} {sp : Nat → Option LooseR} {Q : Exit → Act → World → Prop}
/-- What operation j leans on: what it waits for, and what it takes over. -/
def depL (md : Region.Mode) (ops : Array Oper) (L : List (Nat × Nat)) (j n : Nat) : Bool := dep md ops j n || L.contains (j, n)
def ClsR (md : Region.Mode) (ops : Array Oper) (E : World → World → Prop) (w0 : World) (L : List (Nat × Nat)) (j : Nat) (F : Nat → World → Prop) (W : World) : Prop := E w0 W ∧ ∀ n, depL md ops L j n = true → freeB L n j = true → F n W
/-- What it leans on lies apart. -/
def ApR (md : Region.Mode) (ops : Array Oper) (L : List (Nat × Nat)) (j : Nat) (G : Nat → Nat → Prop) : Prop := ∀ n m i, depL md ops L j n = true → freeB L n j = true → depL md ops L j m = true → freeB L m j = true → n ≠ m → G n i → ¬ G m i
structure AllR (E : World → World → Prop) (lo : Nat → Prop) (w0 : World) (L : List (Nat × Nat)) (listed : Array Bool) (F : Nat → World → Prop) (G : Nat → Nat → Prop) (W : World) : Prop where
  old : E w0 W
  fact : ∀ n, liveR L listed n → F n W
  lo : ∀ n i, G n i → lo i ∧ i < W.heap.size
  apart : ∀ n m i, liveR L listed n → liveR L listed m → n ≠ m → G n i → ¬ G m i
def StFG (lo : Nat → Prop) (F : Nat → World → Prop) (G : Nat → Nat → Prop) : Prop := ∀ n W W' S, F n W → Chg S W W' → (∀ i, G n i → ¬ S i) → (∀ i, S i → lo i) → F n W'
theorem StFG.upd {F : Nat → World → Prop} {G : Nat → Nat → Prop} (h : StFG lo F G) {s : LooseR} (hs : s.Ok lo) {j : Nat} (v : Value) (f : Nat → Prop) : StFG lo (Lex.upd F j (s.R v f)) (updG G j f) :=
  fun n W W' S hf hc hg hS => ⟨h n W W' S hf.1 hc (fun i hi => hg i (.inl hi)) hS, fun e => hs.st v f W W' S (hf.2 e) hc (fun i hi => hg i (.inr ⟨e, hi⟩)) hS⟩
/-- What is taken over is waited for (or was there ahead), and by one alone. -/
structure OkL (md : Region.Mode) (ops : Array Oper) (L : List (Nat × Nat)) : Prop where
  dep : ∀ p ∈ L, ops.size ≤ p.2 ∨ dep md ops p.1 p.2 = true
  one : ∀ p ∈ L, freeB L p.2 p.1 = true
theorem OkL.not (hL : OkL md ops L) {k i : Nat} (hi : i < ops.size) (h : Lex.dep md ops k i = false) : (k, i) ∉ L := fun hm => by
  rcases hL.dep _ hm with h1 | h1
  · exact absurd hi (Nat.not_lt.2 h1)
  · rw [h] at h1
    cases h1
theorem OkL.depL (hL : OkL md ops L) {k i : Nat} (hi : i < ops.size) (h : Lex.dep md ops k i = false) : Lex.depL md ops L k i = false := by
  unfold Lex.depL
  rw [h, Bool.false_or]
  simpa using hL.not hi h
theorem apR_upd (hL : OkL md ops L) {k i : Nat} (hi : i < ops.size) {G : Nat → Nat → Prop} {f : Nat → Prop} (h : dep md ops k i = false) (ha : ApR md ops L k (updG G i f)) : ApR md ops L k G := fun n m b h1 h2 h3 h4 hne hg hg2 => ha n m b h1 h2 h3 h4 hne (.inl hg) (.inl hg2)
theorem apR_upd' (hL : OkL md ops L) {k i : Nat} (hi : i < ops.size) {G : Nat → Nat → Prop} {f : Nat → Prop} (h : dep md ops k i = false) (ha : ApR md ops L k G) : ApR md ops L k (updG G i f) := fun n m b h1 h2 h3 h4 hne hg hg2 => by
  have hd := hL.depL hi h
  refine ha n m b h1 h2 h3 h4 hne (hg.resolve_right fun k => ?_) (hg2.resolve_right fun k => ?_)
  · rw [k.1, hd] at h1
    cases h1
  · rw [k.1, hd] at h3
    cases h3
theorem clsR_upd (hL : OkL md ops L) {k i : Nat} (hi : i < ops.size) {F : Nat → World → Prop} {r : World → Prop} (h : dep md ops k i = false) (W : World) : ClsR md ops E w0 L k (upd F i r) W ↔ ClsR md ops E w0 L k F W :=
  ⟨fun hc => ⟨hc.1, fun j hj hf => (hc.2 j hj hf).1⟩, fun hc => ⟨hc.1, fun j hj hf => ⟨hc.2 j hj hf, fun e => by
    subst e
    unfold depL at hj
    rw [h, Bool.false_or] at hj
    exact absurd (by simpa using hj) (hL.not hi h)⟩⟩⟩
theorem CF_upd (hL : OkL md ops L) {k i : Nat} (hi : i < ops.size) {G : Nat → Nat → Prop} {f : Nat → Prop} (h : dep md ops k i = false) : CF L k (updG G i f) = CF L k G := by
  funext b
  refine propext ⟨fun ⟨d, hd, hg⟩ => ⟨d, hd, hg.resolve_right fun hh => ?_⟩, fun ⟨d, hd, hg⟩ => ⟨d, hd, .inl hg⟩⟩
  exact hL.not hi h (hh.1 ▸ hd)
def looseR (P : Program) (C : Nat → Prop) (W : World) (s : LooseR) : Result Next → Prop
  | .ok (.value v) W' => s.T v ∧ Chg C W W' ∧ ∃ f, s.R v f W' ∧ ∀ i, f i → (W.heap.size ≤ i ∧ i < W'.heap.size) ∨ C i
  | .ok (.enter f args) W' => Calls P f args W' fun e W'' => ∃ v, e = .returned v ∧ s.T v ∧ Chg C W W'' ∧ ∃ f, s.R v f W'' ∧ ∀ i, f i → (W.heap.size ≤ i ∧ i < W''.heap.size) ∨ C i
  | _ => False
def stepR (P : Program) (md : Region.Mode) (ops : Array Oper) (E : World → World → Prop) (w0 : World) (L : List (Nat × Nat)) (sp : Nat → Option LooseR) (j : Nat) (o : Oper) (K : Act → (Nat → World → Prop) → (Nat → Nat → Prop) → Prop) (a : Act) (F : Nat → World → Prop) (G : Nat → Nat → Prop) : Prop :=
  if Region.wanted o (yielded ops a.tmps) = true then
    match sp j with
    | none => ∃ v, (∀ W, E w0 W → (execOp a.eval o).run P W = .ok (.value v) W) ∧ K (a.put o.dst v) F G
    | some s => (∀ W, ClsR md ops E w0 L j F W → ApR md ops L j G → looseR P (CF L j G) W s ((execOp a.eval o).run P W)) ∧ ∀ v f, s.T v → K (a.put o.dst v) (upd F j (s.R v f)) (updG G j f)
  else K (a.put o.dst undef) F G
def opR (P : Program) (md : Region.Mode) (ops : Array Oper) (E : World → World → Prop) (w0 : World) (L : List (Nat × Nat)) (sp : Nat → Option LooseR) (j : Nat) (K : Act → (Nat → World → Prop) → (Nat → Nat → Prop) → Prop) (a : Act) (F : Nat → World → Prop) (G : Nat → Nat → Prop) : Prop :=
  match ops[j]? with
  | none => K a F G
  | some o => stepR P md ops E w0 L sp j o K a F G
def anyR (P : Program) (md : Region.Mode) (ops : Array Oper) (E : World → World → Prop) (w0 : World) (L : List (Nat × Nat)) (sp : Nat → Option LooseR) (H : Nat → Bool) (Z : Array Bool → Act → (Nat → World → Prop) → (Nat → Nat → Prop) → Prop) : Nat → Array Bool → Act → (Nat → World → Prop) → (Nat → Nat → Prop) → Prop
  | 0, listed, a, F, G => Z listed a F G
  | fuel + 1, listed, a, F, G => Region.ready md ops listed ≠ [] ∧ ∀ j ∈ Region.ready md ops listed, H j = true ∧ opR P md ops E w0 L sp j (anyR P md ops E w0 L sp H Z fuel (listed.setIfInBounds j true)) a F G
theorem live_set {listed : Array Bool} {j n : Nat} (h : liveR L (listed.setIfInBounds j true) n) : liveR L listed n := fun p hp hn => by
  have h1 := h p hp hn
  by_cases hj : j = p.1
  · subst hj
    rcases Nat.lt_or_ge p.1 listed.size with h2 | h2
    · simp [h2] at h1
    · simp [Array.getElem?_eq_none h2]
  · rwa [getD_set_ne false hj] at h1
theorem AllR.skip {listed : Array Bool} {F : Nat → World → Prop} {G : Nat → Nat → Prop} {W : World} (h : AllR E lo w0 L listed F G W) (j : Nat) : AllR E lo w0 L (listed.setIfInBounds j true) F G W :=
  ⟨h.old, fun n hn => h.fact n (live_set hn), h.lo, fun n m i hn hm => h.apart n m i (live_set hn) (live_set hm)⟩
theorem AllR.step (he : EnvR E lo w0) (hL : OkL md ops L) {listed : Array Bool} {F : Nat → World → Prop} {G : Nat → Nat → Prop} {W W' : World} {j : Nat} {s : LooseR} {v : Value} {f : Nat → Prop} (h : AllR E lo w0 L listed F G W) (hF : StFG lo F G) (hj : listed.getD j false = false) (hlt : j < listed.size) (hc : Chg (CF L j G) W W') (hr : s.R v f W')
    (hft : ∀ i, f i → (W.heap.size ≤ i ∧ i < W'.heap.size) ∨ CF L j G i) : AllR E lo w0 L (listed.setIfInBounds j true) (upd F j (s.R v f)) (updG G j f) W' := by
  have hlo : ∀ i, CF L j G i → lo i := fun i ⟨d, _, hg⟩ => (h.lo d i hg).1
  have hdlive : ∀ d, (j, d) ∈ L → liveR L listed d := fun d hd p hp hn => by
    rw [freeB_spec (hL.one _ hd) hp hn]
    exact hj
  have hne : ∀ n d, liveR L (listed.setIfInBounds j true) n → (j, d) ∈ L → n ≠ d := fun n d hn hd e => by
    have h1 := hn _ hd e.symm
    simp [hlt] at h1
  have hsep : ∀ n, liveR L (listed.setIfInBounds j true) n → ∀ i, G n i → ¬ CF L j G i := fun n hn i hg ⟨d, hd, hgd⟩ => h.apart n d i (live_set hn) (hdlive d hd) (hne n d hn hd) hg hgd
  refine ⟨he.step _ _ _ h.old hc hlo, fun n hn => ⟨hF n W W' _ (h.fact n (live_set hn)) hc (hsep n hn) hlo, fun e => hr⟩, fun n i hg => ?_, fun n m i hn hm hnm hg hg2 => ?_⟩
  · rcases hg with hg | ⟨_, hg⟩
    · have := h.lo n i hg
      exact ⟨this.1, Nat.lt_of_lt_of_le this.2 hc.size⟩
    · rcases hft i hg with h1 | ⟨d, hd, h1⟩
      · exact ⟨he.new _ _ h.old h1.1, h1.2⟩
      · have := h.lo d i h1
        exact ⟨this.1, Nat.lt_of_lt_of_le this.2 hc.size⟩
  · rcases hg with hg | ⟨e1, hg⟩
    · rcases hg2 with hg2 | ⟨e2, hg2⟩
      · exact h.apart n m i (live_set hn) (live_set hm) hnm hg hg2
      · rcases hft i hg2 with h1 | h1
        · have := (h.lo n i hg).2
          omega
        · exact hsep n hn i hg h1
    · rcases hg2 with hg2 | ⟨e2, hg2⟩
      · rcases hft i hg with h1 | h1
        · have := (h.lo m i hg2).2
          omega
        · exact hsep m hm i hg2 h1
      · exact hnm (e1.trans e2.symm)
theorem AllR.cls {listed : Array Bool} {F : Nat → World → Prop} {G : Nat → Nat → Prop} {W : World} {j : Nat} (h : AllR E lo w0 L listed F G W) (hj : listed.getD j false = false) : ClsR md ops E w0 L j F W :=
  ⟨h.old, fun n _ hf => h.fact n fun p hp hn => by rw [freeB_spec hf hp hn]; exact hj⟩
theorem AllR.ap {listed : Array Bool} {F : Nat → World → Prop} {G : Nat → Nat → Prop} {W : World} {j : Nat} (h : AllR E lo w0 L listed F G W) (hj : listed.getD j false = false) : ApR md ops L j G :=
  fun n m i _ hf _ hf2 hne => h.apart n m i (fun p hp hn => by rw [freeB_spec hf hp hn]; exact hj) (fun p hp hn => by rw [freeB_spec hf2 hp hn]; exact hj) hne
theorem any_ofR (he : EnvR E lo w0) {H : Nat → Bool} {g : Nat} {Z : Array Bool → Act → (Nat → World → Prop) → (Nat → Nat → Prop) → Prop} (hZ : ∀ listed a F G W, Z listed a F G → AllR E lo w0 L listed F G W → wpAny P md ops Q g listed a W) (hL : OkL md ops L) (hsp : ∀ j s, sp j = some s → s.Ok lo) :
    ∀ (fuel : Nat) (listed : Array Bool) (a : Act) (F : Nat → World → Prop) (G : Nat → Nat → Prop) (W : World), listed.size = ops.size → StFG lo F G → AllR E lo w0 L listed F G W → anyR P md ops E w0 L sp H Z fuel listed a F G → wpAny P md ops Q (fuel + g) listed a W
  | 0, _, _, _, _, W, _, _, hW, h => by rw [Nat.zero_add]; exact hZ _ _ _ _ _ h hW
  | fuel + 1, listed, a, F, G, W, hsz, hF, hW, h => by
    rw [show fuel + 1 + g = (fuel + g) + 1 by omega]
    refine ⟨fun h0 => absurd h0 h.1, fun j hj => ?_⟩
    have h1 := (h.2 j hj).2
    obtain ⟨hun, o, ho, _⟩ := mem_ready.1 hj
    have hun := getD_both hun
    have hjl : j < listed.size := by rw [hsz]; exact (Array.getElem?_eq_some_iff.1 ho).1
    have hsz2 : (listed.setIfInBounds j true).size = ops.size := by simpa using hsz
    unfold opR at h1
    unfold wpOp
    simp only [ho] at h1 ⊢
    unfold stepR at h1
    by_cases hw : Region.wanted o (yielded ops a.tmps) = true
    · simp only [hw, if_true] at h1 ⊢
      refine .inl ?_
      unfold Oper.wp
      cases hs : sp j with
      | none =>
        simp only [hs] at h1
        obtain ⟨v, hv, hk⟩ := h1
        rw [hv W hW.old]
        exact any_ofR he hZ hL hsp fuel _ _ _ _ _ hsz2 hF (hW.skip j) hk
      | some s =>
        simp only [hs] at h1
        obtain ⟨hv, hk⟩ := h1
        have h2 := hv W (hW.cls hun) (hW.ap hun)
        generalize (execOp a.eval o).run P W = r at h2 ⊢
        cases r with
        | ok n W' =>
          cases n <;> simp only [looseR] at h2 <;> simp only [Oper.upon]
          case value v =>
            obtain ⟨hT, hc, f, hr, hft⟩ := h2
            exact any_ofR he hZ hL hsp fuel _ _ _ _ _ hsz2 (hF.upd (hsp j s hs) v f) (hW.step he hL hF hun hjl hc hr hft) (hk v f hT)
          case enter f args =>
            refine h2.mono fun e W'' ⟨v, hev, hT, hc, f, hr, hft⟩ => ?_
            subst hev
            exact any_ofR he hZ hL hsp fuel _ _ _ _ _ hsz2 (hF.upd (hsp j s hs) v f) (hW.step he hL hF hun hjl hc hr hft) (hk v f hT)
        | halt x W' => simp only [looseR] at h2
    · simp only [hw] at h1 ⊢
      exact any_ofR he hZ hL hsp fuel _ _ _ _ _ hsz2 hF (hW.skip j) h1
/-- An operation has a value at the least. -/
theorem stepR_some (hsp : ∀ j s, sp j = some s → s.Ok lo) {i : Nat} {oi : Oper} {a : Act} {F : Nat → World → Prop} {G : Nat → Nat → Prop} {K : Act → (Nat → World → Prop) → (Nat → Nat → Prop) → Prop} (h : stepR P md ops E w0 L sp i oi K a F G) :
    ∃ v F' G', ((F' = F ∧ G' = G) ∨ ∃ r f, F' = upd F i r ∧ G' = updG G i f) ∧ K (a.put oi.dst v) F' G' := by
  unfold stepR at h
  by_cases hw : Region.wanted oi (yielded ops a.tmps) = true
  · simp only [hw, if_true] at h
    cases hs : sp i with
    | none =>
      simp only [hs] at h
      obtain ⟨v, _, hk⟩ := h
      exact ⟨v, F, G, .inl ⟨rfl, rfl⟩, hk⟩
    | some s =>
      simp only [hs] at h
      obtain ⟨v, hT⟩ := (hsp i s hs).ne
      exact ⟨v, _, _, .inr ⟨_, _, rfl, rfl⟩, h.2 v (fun _ => False) hT⟩
  · simp only [hw] at h
    exact ⟨_, F, G, .inl ⟨rfl, rfl⟩, h⟩
/-- An operation that may be taken first. -/
theorem anyR_first (he : EnvR E lo w0) {H A : Nat → Bool} {Z : Array Bool → Act → (Nat → World → Prop) → (Nat → Nat → Prop) → Prop} (hwait : ∀ listed, Closed md ops listed → (∃ h, A h = true ∧ listed.getD h true = false) → ∀ t ∈ Region.ready md ops listed, H t = true) (hdone : ∀ listed a F G, Z listed a F G → ∀ j ∈ Region.ready md ops listed, H j = false) (hL : OkL md ops L) (hsp : ∀ j s, sp j = some s → s.Ok lo) {i : Nat} {oi : Oper} (hin : A i = true) (hi : ops[i]? = some oi) (hsel : ∀ (j : Nat) (o : Oper) cs b, ops[j]? = some o → o.op ≠ .select cs b) :
    ∀ (fuel : Nat) (listed : Array Bool) (a : Act) (F : Nat → World → Prop) (G : Nat → Nat → Prop), Closed md ops listed →
      (∀ j oj, ops[j]? = some oj → j ≠ i → listed.getD j true = false → (∀ e ∈ oj.after, Region.binds md e = true → e.on ≠ i) → oi.apart ops oj = true) →
      i ∈ Region.ready md ops listed →
      stepR P md ops E w0 L sp i oi (anyR P md ops E w0 L sp H Z fuel (listed.setIfInBounds i true)) a F G → anyR P md ops E w0 L sp H Z (fuel + 1) listed a F G := by
  intro fuel
  induction fuel with
  | zero =>
    intro listed a F G hcl hfree hr HH
    refine ⟨fun h => (by rw [h] at hr; cases hr), fun j hj => ?_⟩
    have hjn : H j = true := hwait listed hcl ⟨i, hin, (mem_ready.1 hr).1⟩ j hj
    refine ⟨hjn, ?_⟩
    by_cases hji : j = i
    · subst hji
      unfold opR
      simp only [hi]
      exact HH
    · exfalso
      have h1 := ready_mono hj hji
      obtain ⟨_, _, _, _, h2⟩ := stepR_some hsp HH
      have := hdone _ _ _ _ h2 j h1
      rw [hjn] at this
      cases this
  | succ fuel ih =>
    intro listed a F G hcl hfree hr HH
    refine ⟨fun h => (by rw [h] at hr; cases hr), fun j hj => ?_⟩
    have hjn : H j = true := hwait listed hcl ⟨i, hin, (mem_ready.1 hr).1⟩ j hj
    refine ⟨hjn, ?_⟩
    by_cases hji : j = i
    · subst hji
      unfold opR
      simp only [hi]
      exact HH
    · obtain ⟨hjun, oj, hoj, hall⟩ := mem_ready.1 hj
      have hiun := (mem_ready.1 hr).1
      have hnot : ∀ e ∈ oj.after, Region.binds md e = true → e.on ≠ i := fun e he hb heq => by
        have h1 := hall e he hb
        rw [heq, getD_both hiun] at h1
        cases h1
      have hap := hfree j oj hoj hji hjun hnot
      obtain ⟨p1, p2, p3⟩ := Oper.apart_spec hap
      have hsi : ∀ cs b, oi.op ≠ .select cs b := fun cs b => hsel i oi cs b hi
      have hsj : ∀ cs b, oj.op ≠ .select cs b := fun cs b => hsel j oj cs b hoj
      have hdep : dep md ops j i = false := not_dep hcl hj hiun
      have hdep2 : dep md ops i j = false := not_dep hcl hr hjun
      have hilt : i < ops.size := (Array.getElem?_eq_some_iff.1 hi).1
      have hjlt : j < ops.size := (Array.getElem?_eq_some_iff.1 hoj).1
      have hcl2 := hcl.set hj
      have hfree' : ∀ k ok, ops[k]? = some ok → k ≠ i → (listed.setIfInBounds j true).getD k true = false →
          (∀ e ∈ ok.after, Region.binds md e = true → e.on ≠ i) → oi.apart ops ok = true := fun k ok hk hki hun hno => by
        refine hfree k ok hk hki ?_ hno
        by_cases hjk : j = k
        · subst hjk; exact hjun
        · rw [getD_set_ne true hjk] at hun; exact hun
      have hr2 := ready_mono hr (Ne.symm hji)
      have hjr := ready_mono hj hji
      have hsw : (listed.setIfInBounds j true).setIfInBounds i true = (listed.setIfInBounds i true).setIfInBounds j true := Array.setIfInBounds_comm _ _ hji
      unfold opR
      simp only [hoj]
      have again : ∀ (u : Value) (F' : Nat → World → Prop) (G' : Nat → Nat → Prop), (∀ W, ClsR md ops E w0 L i F' W → ClsR md ops E w0 L i F W) → (ApR md ops L i G' → ApR md ops L i G) → CF L i G' = CF L i G →
          (∀ v, anyR P md ops E w0 L sp H Z (fuel + 1) (listed.setIfInBounds i true) (a.put oi.dst v) F G → anyR P md ops E w0 L sp H Z fuel ((listed.setIfInBounds i true).setIfInBounds j true) ((a.put oi.dst v).put oj.dst u) F' G') →
          (∀ v r f, anyR P md ops E w0 L sp H Z (fuel + 1) (listed.setIfInBounds i true) (a.put oi.dst v) (upd F i r) (updG G i f) → anyR P md ops E w0 L sp H Z fuel ((listed.setIfInBounds i true).setIfInBounds j true) ((a.put oi.dst v).put oj.dst u) (upd F' i r) (updG G' i f)) →
          stepR P md ops E w0 L sp i oi (anyR P md ops E w0 L sp H Z fuel ((listed.setIfInBounds j true).setIfInBounds i true)) (a.put oj.dst u) F' G' := by
        intro u F' G' hc hap' hcf hq hl
        unfold stepR at HH ⊢
        rw [wanted_put oi a oj.dst u p3, execOp_put oi hsi a oj.dst u p3, hsw, hcf]
        by_cases hw : Region.wanted oi (yielded ops a.tmps) = true
        · simp only [hw, if_true] at HH ⊢
          cases hs : sp i with
          | none =>
            simp only [hs] at HH
            obtain ⟨v, hv, hk⟩ := HH
            refine ⟨v, hv, ?_⟩
            rw [← Act.put_comm a v u p2]
            exact hq v hk
          | some s =>
            simp only [hs] at HH
            obtain ⟨hv, hk⟩ := HH
            refine ⟨fun W hW hA => hv W (hc W hW) (hap' hA), fun v f hT => ?_⟩
            rw [← Act.put_comm a v u p2]
            exact hl v _ _ (hk v f hT)
        · simp only [hw] at HH ⊢
          rw [← Act.put_comm a undef u p2]
          exact hq undef HH
      have stepj : ∀ (v : Value) (F' : Nat → World → Prop) (G' : Nat → Nat → Prop), anyR P md ops E w0 L sp H Z (fuel + 1) (listed.setIfInBounds i true) (a.put oi.dst v) F' G' →
          stepR P md ops E w0 L sp j oj (anyR P md ops E w0 L sp H Z fuel ((listed.setIfInBounds i true).setIfInBounds j true)) (a.put oi.dst v) F' G' := by
        intro v F' G' h
        have := (h.2 j hjr).2
        unfold opR at this
        simpa only [hoj] using this
      obtain ⟨v0, F0, G0, hFG0, hh0⟩ := stepR_some hsp HH
      have h0j := stepj v0 F0 G0 hh0
      have clsj : ∀ W, ClsR md ops E w0 L j F W → ClsR md ops E w0 L j F0 W := by
        rcases hFG0 with ⟨rfl, _⟩ | ⟨r, f, rfl, _⟩
        · exact fun _ h => h
        · exact fun W h => (clsR_upd hL hilt hdep W).2 h
      have apj : ApR md ops L j G → ApR md ops L j G0 := by
        rcases hFG0 with ⟨_, rfl⟩ | ⟨r, f, _, rfl⟩
        · exact fun h => h
        · exact apR_upd' hL hilt hdep
      have cfj : CF L j G0 = CF L j G := by
        rcases hFG0 with ⟨_, rfl⟩ | ⟨r, f, _, rfl⟩
        · rfl
        · exact CF_upd hL hilt hdep
      unfold stepR at h0j ⊢
      rw [wanted_put oj a oi.dst v0 p1, execOp_put oj hsj a oi.dst v0 p1] at h0j
      by_cases hw : Region.wanted oj (yielded ops a.tmps) = true
      · simp only [hw, if_true] at h0j ⊢
        cases hs : sp j with
        | none =>
          simp only [hs] at h0j
          obtain ⟨u, hu, _⟩ := h0j
          have key : ∀ (v : Value) (F' : Nat → World → Prop) (G' : Nat → Nat → Prop), anyR P md ops E w0 L sp H Z (fuel + 1) (listed.setIfInBounds i true) (a.put oi.dst v) F' G' →
              anyR P md ops E w0 L sp H Z fuel ((listed.setIfInBounds i true).setIfInBounds j true) ((a.put oi.dst v).put oj.dst u) F' G' := by
            intro v F' G' h
            have hj2 := stepj v F' G' h
            unfold stepR at hj2
            rw [wanted_put oj a oi.dst v p1, execOp_put oj hsj a oi.dst v p1] at hj2
            simp only [hw, if_true, hs] at hj2
            obtain ⟨u2, hu2, hk2⟩ := hj2
            have e1 := hu2 w0 he.refl
            rw [hu w0 he.refl] at e1
            injection e1 with e1 _
            injection e1 with e1
            subst e1
            exact hk2
          exact ⟨u, hu, ih (listed.setIfInBounds j true) (a.put oj.dst u) F G hcl2 hfree' hr2 (again u F G (fun _ h => h) (fun h => h) rfl (fun v h => key v _ _ h) (fun v r f h => key v _ _ h))⟩
        | some s =>
          simp only [hs] at h0j
          obtain ⟨hv0, _⟩ := h0j
          rw [cfj] at hv0
          refine ⟨fun W h hA => hv0 W (clsj W h) (apj hA), fun u fu hT => ih (listed.setIfInBounds j true) (a.put oj.dst u) _ _ hcl2 hfree' hr2 (again u _ _ (fun W h => (clsR_upd hL hjlt hdep2 W).1 h) (apR_upd hL hjlt hdep2) (CF_upd hL hjlt hdep2) ?_ ?_)⟩
          · intro v h
            have hj2 := stepj v F G h
            unfold stepR at hj2
            rw [wanted_put oj a oi.dst v p1, execOp_put oj hsj a oi.dst v p1] at hj2
            simp only [hw, if_true, hs] at hj2
            exact hj2.2 u fu hT
          · intro v r f h
            have hj2 := stepj v _ _ h
            unfold stepR at hj2
            rw [wanted_put oj a oi.dst v p1, execOp_put oj hsj a oi.dst v p1] at hj2
            simp only [hw, if_true, hs] at hj2
            have := hj2.2 u fu hT
            rwa [upd_comm, updG_comm] at this
      · simp only [hw]
        have key : ∀ (v : Value) (F' : Nat → World → Prop) (G' : Nat → Nat → Prop), anyR P md ops E w0 L sp H Z (fuel + 1) (listed.setIfInBounds i true) (a.put oi.dst v) F' G' →
            anyR P md ops E w0 L sp H Z fuel ((listed.setIfInBounds i true).setIfInBounds j true) ((a.put oi.dst v).put oj.dst undef) F' G' := by
          intro v F' G' h
          have hj2 := stepj v F' G' h
          unfold stepR at hj2
          rw [wanted_put oj a oi.dst v p1] at hj2
          rwa [if_neg hw] at hj2
        exact ih (listed.setIfInBounds j true) (a.put oj.dst undef) F G hcl2 hfree' hr2 (again undef F G (fun _ h => h) (fun h => h) rfl (fun v h => key v _ _ h) (fun v r f h => key v _ _ h))
def lexR (P : Program) (md : Region.Mode) (ops : Array Oper) (E : World → World → Prop) (w0 : World) (L : List (Nat × Nat)) (sp : Nat → Option LooseR) (R : Act → World → Prop) : List (Nat × Oper) → Act → (Nat → World → Prop) → (Nat → Nat → Prop) → Prop
  | [], a, F, _ => ∀ W, E w0 W → (∀ n, notC L n = true → F n W) → R a W
  | (k, o) :: rest, a, F, G => stepR P md ops E w0 L sp k o (lexR P md ops E w0 L sp R rest) a F G
theorem anyR_lex (he : EnvR E lo w0) {l : List Oper} (hl : l.toArray = ops) {H A : Nat → Bool} {K : Array Bool → Bool} {R : Act → World → Prop} (hwait : ∀ listed, Closed md ops listed → (∃ h, A h = true ∧ listed.getD h true = false) → ∀ t ∈ Region.ready md ops listed, H t = true)
    (hdone : ∀ listed, K listed = true → ∀ j ∈ Region.ready md ops listed, H j = false) (hL : OkL md ops L) (hsp : ∀ j s, sp j = some s → s.Ok lo) (hs : Region.noSelect ops = true) :
    ∀ (hd : List Nat) (listed : Array Bool) (a : Act) (F : Nat → World → Prop) (G : Nat → Nat → Prop), (∀ h ∈ hd, A h = true ∧ h < ops.size) → Closed md ops listed →
    ordFrom md ops hd listed K = true → lexR P md ops E w0 L sp R (pick l hd) a F G → anyR P md ops E w0 L sp H (fun listed a F _ => K listed = true ∧ ∀ W, E w0 W → (∀ n, notC L n = true → F n W) → R a W) hd.length listed a F G
  | [], listed, a, F, G, _, _, hB, h => ⟨by simpa [ordFrom] using hB, h⟩
  | k :: hd, listed, a, F, G, hA, hcl, hB, h => by
    obtain ⟨hAk, hlt⟩ := hA k List.mem_cons_self
    obtain ⟨o, ho⟩ : ∃ o, l[k]? = some o := ⟨_, List.getElem?_eq_getElem (by rw [← hl] at hlt; simpa using hlt)⟩
    have ho' : ops[k]? = some o := by rw [← hl]; simpa using ho
    simp only [ordFrom, Bool.and_eq_true] at hB
    obtain ⟨⟨hr, hf⟩, hB'⟩ := hB
    have hr' : k ∈ Region.ready md ops listed := by simpa using hr
    have hA' : ∀ h ∈ hd, A h = true ∧ h < ops.size := fun h hh => hA h (List.mem_cons_of_mem _ hh)
    simp only [pick, ho] at h
    refine anyR_first he (A := A) hwait (fun listed' a' F' G' hZ => hdone listed' hZ.1) hL hsp hAk ho' (Region.noSelect_spec hs) hd.length listed a F G hcl (Region.free_spec ho' hf) hr' ?_
    unfold lexR at h
    unfold stepR at h ⊢
    by_cases hw : Region.wanted o (yielded ops a.tmps) = true
    · simp only [hw, if_true] at h ⊢
      cases hsk : sp k with
      | none =>
        simp only [hsk] at h
        obtain ⟨v, hv, hk⟩ := h
        exact ⟨v, hv, anyR_lex he hl hwait hdone hL hsp hs hd _ _ _ _ hA' (hcl.set hr') hB' hk⟩
      | some s =>
        simp only [hsk] at h
        exact ⟨h.1, fun v f hT => anyR_lex he hl hwait hdone hL hsp hs hd _ _ _ _ hA' (hcl.set hr') hB' (h.2 v f hT)⟩
    · rw [if_neg hw] at h ⊢
      exact anyR_lex he hl hwait hdone hL hsp hs hd _ _ _ _ hA' (hcl.set hr') hB' h
def okL (md : Region.Mode) (ops : Array Oper) (L : List (Nat × Nat)) : Bool := L.all fun p => (decide (ops.size ≤ p.2) || Region.waitsFor md ops p.1 p.2) && freeB L p.2 p.1
theorem okL_spec (h : okL md ops L = true) : OkL md ops L := by
  have h1 := fun p hp => List.all_eq_true.1 h p hp
  simp only [Bool.and_eq_true] at h1
  refine ⟨fun p hp => ?_, fun p hp => (h1 p hp).2⟩
  have h2 := (h1 p hp).1
  simp only [Bool.or_eq_true, decide_eq_true_eq] at h2
  rcases h2 with h2 | h2
  · exact .inl h2
  refine .inr ?_
  obtain ⟨o, ho, e, he, hb, hon⟩ := Region.waitsFor_spec h2
  have hsz := (Array.getElem?_eq_some_iff.1 ho).1
  unfold dep
  obtain ⟨m, hm⟩ : ∃ m, ops.size = m + 1 := ⟨ops.size - 1, by omega⟩
  rw [hm]
  unfold reach
  simp only [ho]
  refine Array.any_eq_true'.2 ⟨e, he, ?_⟩
  simp [hb, hon]
def spR (l : List (Nat × LooseR)) (j : Nat) : Option LooseR := (l.find? fun p => p.1 == j).map (·.2)
theorem spR_mem {l : List (Nat × LooseR)} {j : Nat} {s : LooseR} (h : spR l j = some s) : ∃ p ∈ l, p.2 = s := by
  unfold spR at h
  obtain ⟨p, hp, rfl⟩ := Option.map_eq_some_iff.1 h
  exact ⟨p, List.mem_of_find?_eq_some hp, rfl⟩
/-- The rule: hd: the operations in an order of one's own; tl: the stores that stand last; L: which operation takes which one's value over; sp: what is told of the rows; F0, G0: what is known ahead, of which blocks (under numbers that no operation has). -/
theorem wp_region_rE {id : Nat} {a : Act} {w : World} {l : List Oper} (hd tl : List Nat) (E : World → World → Prop) (lo : Nat → Prop) (L : List (Nat × Nat)) (sp : List (Nat × LooseR)) (F0 : Nat → World → Prop) (G0 : Nat → Nat → Prop) (he : EnvR E lo w.drew) (hm : P.follows .mixedOrders = true) (hB : ordB .any l.toArray [] hd tl = true) (hLB : okL .any l.toArray L = true) (hsp : ∀ p ∈ sp, p.2.Ok lo)
    (hF0 : StFG lo F0 G0) (hA0 : AllR E lo w.drew L (Array.replicate l.toArray.size false) F0 G0 w.drew)
    (h : lexR P .any l.toArray E w.drew L (spR sp) (wpList P l.toArray (onlyN Q) ((pick l tl).map (·.2))) (pick l hd) a F0 G0) : (Code.region id l.toArray true).wp P Q a w := by
  have hL := okL_spec hLB
  have hsp' : ∀ j s, spR sp j = some s → s.Ok lo := fun j s hs => by obtain ⟨p, hp, rfl⟩ := spR_mem hs; exact hsp p hp
  simp only [ordB, Bool.and_eq_true, decide_eq_true_eq] at hB
  obtain ⟨⟨⟨⟨⟨hsel, hall⟩, hdis⟩, hlen⟩, hsink⟩, hord⟩ := hB
  have hcl0 : Closed .any l.toArray (Array.replicate l.toArray.size false) := fun k o _ hk => by
    exfalso
    rcases Nat.lt_or_ge k l.length with h | h
    · simp [h] at hk
    · simp [h] at hk
  refine wp_region_any hm (any_monoQ onlyN_le _ _ _ _ ?_)
  have sub : ∀ (ks : List Nat) (listed : Array Bool) (K : Array Bool → Bool), ordFrom .any l.toArray ks listed K = true → ∀ k ∈ ks, k < l.toArray.size := by
    intro ks
    induction ks with
    | nil => intro _ _ _ k hk; cases hk
    | cons x ks ih =>
      intro listed K hB k hk
      simp only [ordFrom, Bool.and_eq_true] at hB
      rcases List.mem_cons.1 hk with rfl | hk
      · have hr : k ∈ Region.ready .any l.toArray listed := by simpa using hB.1.1
        obtain ⟨_, o, ho, _⟩ := mem_ready.1 hr
        exact (Array.getElem?_eq_some_iff.1 ho).1
      · exact ih _ _ hB.2 k hk
  simp only [ordFrom] at hord
  have hsub := sub _ _ _ hord
  have hnt : ∀ t ∈ tl, ¬ ([] ++ hd).contains t = true := fun t ht => by
    have := List.all_eq_true.1 hdis t ht
    simp only [Bool.and_eq_true] at this
    simpa using this.1
  have HX := anyR_lex he (md := .any) (ops := l.toArray) (P := P) (w0 := w.drew) (l := l) (L := L) rfl (H := fun i => ([] ++ hd).contains i) (A := fun i => hd.contains i) (K := seqO .any l.toArray tl) (R := wpList P l.toArray (onlyN Q) ((pick l tl).map (·.2)))
    (fun listed' hcl' ⟨h', hG, hun⟩ t ht => by
      obtain ⟨_, ot, hot, _⟩ := mem_ready.1 ht
      have h1 := List.all_eq_true.1 hall t (List.mem_range.2 (Array.getElem?_eq_some_iff.1 hot).1)
      simp only [Bool.or_eq_true] at h1
      rcases h1 with h1 | h1
      · exact h1
      · have h2 := sinkAll_spec hcl' ht tl hd hsink (by simpa using h1) h' (by simpa using hG)
        rw [getD_both hun] at h2
        cases h2)
    (fun listed' hK' j hj => by
      cases tl with
      | nil => simp only [seqO, List.isEmpty_iff] at hK'; rw [hK'] at hj; cases hj
      | cons t tl =>
        simp only [seqO, Bool.and_eq_true, decide_eq_true_eq] at hK'
        rw [hK'.1] at hj
        have : j = t := by simpa using hj
        subst this
        simpa using hnt j List.mem_cons_self) hL hsp' hsel hd _ a F0 G0 (fun h hh => ⟨by simpa using hh, hsub h hh⟩) hcl0 hord h
  have := any_ofR he (Q := onlyN Q) (g := tl.length) (fun listed' a' F G W hZ hW => any_seqO rfl tl listed' a' W (fun t ht => by
    have := List.all_eq_true.1 hdis t ht
    simp only [Bool.and_eq_true, decide_eq_true_eq] at this
    exact this.2) hZ.1 (hZ.2 W hW.old fun n hn => hW.fact n (notC_live hn))) hL hsp' hd.length _ a F0 G0 w.drew (by simp) hF0 hA0 HX
  rw [show hd.length + tl.length = l.toArray.size by simp at hlen ⊢; omega] at this
  exact this
theorem env_ext (w0 : World) : EnvR Ext (fun i => w0.heap.size ≤ i) w0 := ⟨Ext.refl _, fun W W' S h hc hS => h.chg hc hS, fun W i h hi => Nat.le_trans h.size hi⟩
/-- .. in which nothing old is written but by its tail. -/
theorem wp_region_r {id : Nat} {a : Act} {w : World} {l : List Oper} (hd tl : List Nat) (L : List (Nat × Nat)) (sp : List (Nat × LooseR)) (hm : P.follows .mixedOrders = true) (hB : ordB .any l.toArray [] hd tl = true) (hLB : okL .any l.toArray L = true) (hsp : ∀ p ∈ sp, p.2.Ok fun i => w.drew.heap.size ≤ i)
    (h : lexR P .any l.toArray Ext w.drew L (spR sp) (wpList P l.toArray (onlyN Q) ((pick l tl).map (·.2))) (pick l hd) a (fun _ _ => True) (fun _ _ => False)) : (Code.region id l.toArray true).wp P Q a w :=
  wp_region_rE hd tl Ext _ L sp _ _ (env_ext _) hm hB hLB hsp (fun _ _ _ _ _ _ _ _ => trivial) ⟨Ext.refl _, fun _ _ => trivial, fun _ _ h => h.elim, fun _ _ _ _ _ _ h => h.elim⟩ h
theorem env_chg (f0 : Nat → Prop) (w0 : World) : EnvR (Chg f0) (fun i => f0 i ∨ w0.heap.size ≤ i) w0 :=
  ⟨Chg.refl _ _, fun W W' S h hc hS => ⟨hc.os.trans h.os, hc.tape.trans h.tape, hc.output.trans h.output, Nat.le_trans h.size hc.size, fun i hi hn => by
    rw [hc.block i (Nat.lt_of_lt_of_le hi h.size) fun k => (hS i k).elim hn fun k => by omega, h.block i hi hn]⟩, fun W i h hi => .inr (Nat.le_trans h.size hi)⟩
/-- .. in which an object that was there ahead (out of blocks f0, known by I) is taken over too, under number N. -/
theorem wp_region_rw {id : Nat} {a : Act} {w : World} {l : List Oper} (hd tl : List Nat) (f0 : Nat → Prop) (N : Nat) (s0 : LooseR) (v0 : Value) (L : List (Nat × Nat)) (sp : List (Nat × LooseR)) (hm : P.follows .mixedOrders = true) (hB : ordB .any l.toArray [] hd tl = true) (hLB : okL .any l.toArray L = true) (hsp : ∀ p ∈ sp, p.2.Ok fun i => f0 i ∨ w.drew.heap.size ≤ i)
    (hs0 : s0.Ok fun i => f0 i ∨ w.drew.heap.size ≤ i) (hI : s0.R v0 f0 w.drew) (hlt : ∀ i, f0 i → i < w.heap.size)
    (h : lexR P .any l.toArray (Chg f0) w.drew L (spR sp) (wpList P l.toArray (onlyN Q) ((pick l tl).map (·.2))) (pick l hd) a (upd (fun _ _ => True) N (s0.R v0 f0)) (updG (fun _ _ => False) N f0)) : (Code.region id l.toArray true).wp P Q a w := by
  have hst : StFG (fun i => f0 i ∨ w.drew.heap.size ≤ i) (fun _ _ => True) (fun _ _ => False) := fun _ _ _ _ _ _ _ _ => trivial
  refine wp_region_rE hd tl (Chg f0) _ L sp _ _ (env_chg f0 _) hm hB hLB hsp (hst.upd hs0 v0 f0) ⟨Chg.refl _ _, fun n _ => ⟨trivial, fun _ => hI⟩, fun n i hg => ?_, fun n m i _ _ hnm hg hg2 => ?_⟩ h
  · rcases hg with hg | ⟨_, hg⟩
    · exact hg.elim
    · exact ⟨.inl hg, hlt i hg⟩
  · rcases hg with hg | ⟨e1, _⟩
    · exact hg.elim
    · rcases hg2 with hg2 | ⟨e2, _⟩
      · exact hg2.elim
      · exact hnm (e1.trans e2.symm)
variable {R : Act → World → Prop} {F : Nat → World → Prop} {G : Nat → Nat → Prop} {a : Act} {o : Oper} {rest : List (Nat × Oper)} {k : Nat}
theorem lexR_nil (h : ∀ W, E w0 W → (∀ n, notC L n = true → F n W) → R a W) : lexR P md ops E w0 L sp R [] a F G := h
theorem lexR_skip (hw : Region.wanted o (yielded ops a.tmps) = false) (h : lexR P md ops E w0 L sp R rest (a.put o.dst undef) F G) : lexR P md ops E w0 L sp R ((k, o) :: rest) a F G := by
  unfold lexR stepR
  rw [if_neg (by rw [hw]; exact Bool.false_ne_true)]
  exact h
theorem lexR_still (hw : Region.wanted o (yielded ops a.tmps) = true) (hs : sp k = none) (h : ∃ v, (∀ W, E w0 W → (execOp a.eval o).run P W = .ok (.value v) W) ∧ lexR P md ops E w0 L sp R rest (a.put o.dst v) F G) : lexR P md ops E w0 L sp R ((k, o) :: rest) a F G := by
  unfold lexR stepR
  rw [if_pos hw]
  simp only [hs]
  exact h
theorem lexR_loose (hw : Region.wanted o (yielded ops a.tmps) = true) {s : LooseR} (hs : sp k = some s) (hv : ∀ W, ClsR md ops E w0 L k F W → ApR md ops L k G → looseR P (CF L k G) W s ((execOp a.eval o).run P W))
    (h : ∀ v f, s.T v → lexR P md ops E w0 L sp R rest (a.put o.dst v) (upd F k (s.R v f)) (updG G k f)) : lexR P md ops E w0 L sp R ((k, o) :: rest) a F G := by
  unfold lexR stepR
  rw [if_pos hw]
  simp only [hs]
  exact ⟨hv, h⟩
end
/-- A row of whatever cells, newer than w0. -/
def rowR (w0 : World) (T : TypeId) (size n : Nat) (vs : List Value) : LooseR := ⟨fun v => ∃ A c, v = .slice A n c, fun v f W => ∀ A c, v = .slice A n c → New w0 W T size A n c vs ∧ ∀ i, v.ownBlock = some i → f i⟩
theorem own_ltB {w : World} {S : Nat → Prop} {e : TypeId} {size n : Nat} {v : Value} {xs : List Value} (h : Own w S e size v n xs) {i : Nat} (hi : v.ownBlock = some i) : i < w.heap.size := (h.row.lt i hi).2
theorem rowR_ok {lo : Nat → Prop} {w0 : World} {T : TypeId} {size n : Nat} {vs : List Value} : (rowR w0 T size n vs).Ok lo :=
  ⟨⟨.slice none n 0, none, 0, rfl⟩, fun v f W W' S hr hc hf _ A c e => ⟨Own.keep (hr A c e).1 fun g hg => hc.block g (own_ltB (hr A c e).1 hg) (hf g ((hr A c e).2 g (by rw [e]; exact hg))), (hr A c e).2⟩⟩
theorem ok_nilR {lo : Nat → Prop} : ∀ p ∈ ([] : List (Nat × LooseR)), p.2.Ok lo := fun p hp => by cases hp
theorem ok_consR {lo : Nat → Prop} {k : Nat} {s : LooseR} {l : List (Nat × LooseR)} (h : s.Ok lo) (hl : ∀ p ∈ l, p.2.Ok lo) : ∀ p ∈ (k, s) :: l, p.2.Ok lo := fun p hp => by
  rcases List.mem_cons.1 hp with rfl | hp
  · exact h
  · exact hl p hp
/-- A literal's row. -/
theorem own_lit {w : World} {T : TypeId} {cs : Array Value} {size n : Nat} (hs : cs.size = n * size) (hn : n ≤ maxLen) : New w (w.alloc (.cells cs T)) T size (some ⟨w.heap.size, 0, none⟩) n n cs.toList :=
  ⟨⟨by simpa using hs, .inr ⟨w.heap.size, n, cs, rfl, Nat.zero_le _, at_new _ _, Nat.le_refl _, hn, hs, by rw [List.take_of_length_le]; simp [hs]⟩⟩, fun k hk => by
    have hk : some w.heap.size = some k := hk
    cases hk
    exact Nat.le_refl _⟩
theorem own_cells {W : World} {S : Nat → Prop} {T : TypeId} {size n c : Nat} {A : Option Addr} {xs : List Value} (h : Own W S T size (.slice A n c) n xs) : ∀ ad, A = some ad → ∀ j u, xs[j]? = some u → W.cell? (ad.add j) = some u := fun ad ha j u hu => by
  obtain ⟨ad', h1, h2⟩ := Vec.own_cell h hu
  rw [ha] at h1
  cases h1
  exact h2
/-- A row that has been laid now. -/
theorem rowR_new {w0 W W' : World} {C : Nat → Prop} {T : TypeId} {size n c : Nat} {A : Option Addr} {vs : List Value} (h0 : w0.heap.size ≤ W.heap.size) (he : Ext W W') (h : New W W' T size A n c vs) :
    (rowR w0 T size n vs).T (.slice A n c) ∧ Chg C W W' ∧ ∃ f, (rowR w0 T size n vs).R (.slice A n c) f W' ∧ ∀ i, f i → (W.heap.size ≤ i ∧ i < W'.heap.size) ∨ C i :=
  ⟨⟨A, c, rfl⟩, Below.chg he, fun i => (Value.slice A n c).ownBlock = some i, fun A' c' e => by cases e; exact ⟨h.mono fun i _ hi => Nat.le_trans h0 hi, fun i hi => hi⟩, fun i hi => .inl ⟨h.foot i hi, own_ltB h hi⟩⟩
section
variable {P : Program}
/-- An append to a row that is taken over: of what a slice of whatever cells reads, nil or not. -/
theorem app_looseR {L : List (Nat × Nat)} {G : Nat → Nat → Prop} {k : Nat} {a : Act} {o : Oper} {w0 W : World} (s x : Operand) (t : TypeId)
    (ho : o.op = .call { callee := .builtin .append, args := #[s, x], argTypes := #[t, t] })
    (e : TypeId) (z : Value) (size bytes : Nat) (ht : P.underlying t = some (.slice e)) (hinfo : (P.info? e).map (fun i => (i.zero, i.size, i.bytes)) = some (some z, size, bytes)) (hzs : z.cells.size = size) (hsz : 0 < size) (hb0 : 0 < bytes)
    {v : Value} {n : Nat} {xs : List Value} (hs : a.eval s = v) (hown : Own W (fun i => w0.heap.size ≤ i) e size v n xs) (hcf : ∀ i, v.ownBlock = some i → CF L k G i) {A : Option Addr} {m c : Nat} {vs : List Value} (hx : a.eval x = .slice A m c) (hl : vs.length = m * size) (hA : A = none → m = 0) (hc : ∀ ad, A = some ad → ∀ j u, vs[j]? = some u → W.cell? (ad.add j) = some u) (h1 : ∀ u ∈ vs, u.oneCell' = true)
    (hbytes : (n + m) * bytes ≤ 140737488355328) (h0 : w0.heap.size ≤ W.heap.size) {N : Nat} (hN : n + m = N) {ys : List Value} (hys : xs ++ vs = ys) : looseR P (CF L k G) W (rowR w0 e size N ys) ((execOp a.eval o).run P W) := by
  subst hN
  subst hys
  obtain ⟨i, hi, hz, hsize, hby⟩ := info_parts hinfo
  have hlen : n + m ≤ 140737488355328 := Nat.le_trans (Nat.le_mul_of_pos_right _ hb0) hbytes
  have key : ∃ v' w', (Builtin.append_ #[t, t] o.type #[v, .slice A m c]).run P W = .ok v' w' ∧ w'.ownsRow 0 e size v' (n + m) (xs ++ vs) ∧ W.grownBy w' v.ownBlock ∧ (v'.ownBlock = v.ownBlock ∨ v'.ownBlock = some W.heap.size) := by
    rcases A with _ | ad
    · have h0 := hA rfl
      subst h0
      obtain rfl : vs = [] := List.eq_nil_of_length_eq_zero (by simpa using hl)
      refine ⟨v, W, ?_, by simpa using hown.row, World.grownBy.refl W _, .inl rfl⟩
      rcases hown.row.2 with ⟨rfl, rfl⟩ | ⟨g, cap, cur, rfl, _, _, hnc, _⟩
      · simp [Builtin.append_, run_underlying ht, sizeOf, typeInfo, hi, Builtin.lenOf, Builtin.firstCells]
      · simp [Builtin.append_, run_underlying ht, sizeOf, typeInfo, hi, Builtin.lenOf, Builtin.firstCells, hnc, storeCells]
    · obtain ⟨v', w', hrun, h2, h3, _, h5⟩ := run_append_own_at (P := P) W 0 t o.type e i z size bytes ht hi hz hsize hby hzs hsz v n xs hown.row ad m c vs hl (hc ad rfl) h1 (by simp only [maxLen]; omega) hbytes (Nat.zero_le _)
      exact ⟨v', w', hrun, h2, h3, h5⟩
  obtain ⟨v', w', hrun, h2, h3, h5⟩ := key
  obtain ⟨A', c', rfl⟩ := own_slice h2
  have hchg : Chg (fun i => v.ownBlock = some i) W w' := (Chg.refl _ _).grown h3 fun k hk => hk
  have hfoot : ∀ k, (Value.slice A' (n + m) c').ownBlock = some k → w0.heap.size ≤ k := fun k hk => by
    rcases h5 with h5 | h5
    · exact hown.foot k (by rw [← h5]; exact hk)
    · rw [h5] at hk
      cases hk
      exact h0
  have hnew : Own w' (fun i => w0.heap.size ≤ i) e size (.slice A' (n + m) c') (n + m) (xs ++ vs) := ⟨h2, hfoot⟩
  unfold execOp
  simp only [ho, resolve, invoke, builtin, Sem.run_bind, Sem.run_pure, Result.andThen_ok, List.map_toArray, List.map_cons, List.map_nil, hs, hx, hrun, looseR]
  refine ⟨⟨A', c', rfl⟩, hchg.mono fun i _ hi => hcf i hi, fun i => (Value.slice A' (n + m) c').ownBlock = some i, fun A2 c2 e2 => by cases e2; exact ⟨hnew, fun i hi => hi⟩, fun k hk => ?_⟩
  rcases h5 with h5 | h5
  · exact .inr (hcf k (by rw [← h5]; exact hk))
  · refine .inl ⟨?_, own_ltB hnew hk⟩
    have hk' : (Value.slice A' (n + m) c').ownBlock = some k := hk
    rw [h5] at hk'
    cases hk'
    exact Nat.le_refl _
end
end Go.Proofs.Ytipmkddcdnbihaa.Lex
/- The document's tables: which plans may be; walked. -/
namespace Go.Proofs.Ytipmkddcdnbihaa.Tbl
open Go.RowKit Base Step Vec Shape Erase
/-- An answer that tells whether p. -/
def saysL (p : Prop) : Lex.Loose := ⟨fun v => ∃ b : Bool, v = .bool b, fun v _ => v = .bool true ↔ p⟩
theorem saysL_st {p : Prop} : (saysL p).St Ext := fun _ _ _ h _ => h
set_option maxRecDepth 100000 in
set_option maxHeartbeats 4000000 in
theorem rPlan_calls (sl nd : Nat) (t : Tb) (o : Op) (w : World) (ho : (Sh.sl rowS).ok w (o.A, o.n, o.cap, o.rows)) (hm : o.n ≤ 1099511627776) (hr : ∀ r ∈ o.rows, rN r ≤ 8796093021952) :
    Calls Try.prog 170 #[tabV sl nd t, opV o] w (Says w (PlanOk sl nd o)) := by
  have HO := Lib.hid ho
  have HR := Lib.hid hr
  have HN := Lib.hid (sl_len ho).1
  have hmc := (sl_len ho).2.1
  have e0 := Lib.hid ((Ext.new w (.cells (tabC sl nd t) 95)).alloc (.cells (opC o) 89))
  have hbt := (Ext.new (w.alloc (.cells (tabC sl nd t) 95)) (.cells (opC o) 89)).at_ (at_new w (.cells (tabC sl nd t) 95))
  have hbo := at_new (w.alloc (.cells (tabC sl nd t) 95)) (.cells (opC o) 89)
  have hsz : (w.alloc (.cells (tabC sl nd t) 95)).heap.size = w.heap.size + 1 := by simp
  rw [hsz] at hbo
  clear ho hr hsz
  go_enter Try.func170, Try.ntmps170
  go_upto_region 1 with fail
  generalize (w.alloc (.cells (tabC sl nd t) 95)).alloc (.cells (opC o) 89) = w1 at *
  have HBT := Lib.hid hbt
  have HBO := Lib.hid hbo
  have b3 : w1.cell? ⟨w.heap.size + 1, 3, none⟩ = some (.int .i64 o.l) := blk_cell (i := 3) hbo (Ext.refl _) rfl
  have b4 : w1.cell? ⟨w.heap.size + 1, 4, none⟩ = some (.int .i64 o.c) := blk_cell (i := 4) hbo (Ext.refl _) rfl
  have b5 : w1.cell? ⟨w.heap.size + 1, 5, none⟩ = some (.int .i64 o.p) := blk_cell (i := 5) hbo (Ext.refl _) rfl
  clear hbt hbo
  go_upto_region 2 with fail
  have hp := at_new w1 (.cells #[.int .i64 o.l, .int .i64 o.c, .int .i64 o.p] 85)
  have e2 := Lib.hid (e0.out.alloc (.cells #[.int .i64 o.l, .int .i64 o.c, .int .i64 o.p] 85))
  have hX2 := Lib.hid (Ext.new w1 (.cells #[.int .i64 o.l, .int .i64 o.c, .int .i64 o.p] 85))
  have hb2 := hX2.out.at_ HBO.out
  generalize w1.alloc (.cells #[.int .i64 o.l, .int .i64 o.c, .int .i64 o.p] 85) = w2 at *
  have p0 : w2.cell? ⟨w1.heap.size, 0, none⟩ = some (.int .i64 o.l) := blk_cell (i := 0) hp (Ext.refl _) rfl
  have p1 : w2.cell? ⟨w1.heap.size, 1, none⟩ = some (.int .i64 o.c) := blk_cell (i := 1) hp (Ext.refl _) rfl
  have p2 : w2.cell? ⟨w1.heap.size, 2, none⟩ = some (.int .i64 o.p) := blk_cell (i := 2) hp (Ext.refl _) rfl
  have b6 : w2.cell? ⟨w.heap.size + 1, 6, none⟩ = some (.slice o.A o.n o.cap) := blk_cell (i := 6) hb2 (Ext.refl _) rfl
  clear b3 b4 b5 hp
  by_cases hall : 0 ≤ o.l ∧ o.l ≤ 16384 ∧ 0 ≤ o.c ∧ o.c ≤ 32 ∧ 1 ≤ o.p ∧ o.p ≤ 256 ∧ (o.n : Int) = o.c
  · have HALL := Lib.hid hall
    obtain ⟨g1, g2, g3, g4, g5, g6, g7⟩ := hall
    have n1 : ¬ o.l < 0 := by omega
    have n2 : ¬ 16384 < o.l := by omega
    have n3 : ¬ o.c < 0 := by omega
    have n4 : ¬ 32 < o.c := by omega
    have n5 : ¬ o.p < 1 := by omega
    have n6 : ¬ 256 < o.p := by omega
    have n7 : ((o.n : Int) != o.c) = false := by rw [g7]; simp
    clear g1 g2 g3 g4 g5 g6 g7
    go_wp2_with fail
    clear n1 n2 n3 n4 n5 n6 n7 p0 p1 p2 b6
    go_loopg [6] o.n (fun g i wr => ∃ k : Nat, k ≤ o.n ∧ g = o.n - k ∧ i = .int .i64 k ∧ Hid (Ext w2 wr ∧ ∀ r ∈ o.rows.take k, Right sl nd (rP r)))
    case atStart => exact ⟨0, Nat.zero_le _, rfl, rfl, Lib.hid ⟨Ext.refl _, by simp⟩⟩
    case round =>
      obtain ⟨k, hk, rfl, rfl, hrel⟩ := hrel
      obtain ⟨hex, hok⟩ := hrel.out
      have HX := Lib.hid (hX2.out.trans hex)
      have HK := Lib.hid hok
      have b6 : wr.cell? ⟨w.heap.size + 1, 6, none⟩ = some (.slice o.A o.n o.cap) := blk_cell (i := 6) HBO.out HX.out rfl
      have HXX := Lib.hid hex
      clear hrel hex hok
      by_cases hlt : k < o.n
      · obtain ⟨ad, r, hA, hr, hcell, hrok⟩ := row_at HO.out hlt
        have HROK := Lib.hid hrok
        have HRR := Lib.hid hr
        have HC := Lib.hid hcell
        have hrn := HR.out r (List.mem_of_getElem? hr)
        rw [hA] at b6
        clear hcell hrok hr
        go_upto_region 7 with fail
        have y0 : ∀ W, Ext wr.drew W → W.cell? ⟨w.heap.size, 0, none⟩ = some (.int .i64 sl) := fun W hW => blk_cell (i := 0) HBT.out (HX.out.trans (drew_ext hW)) rfl
        have y1 : ∀ W, Ext wr.drew W → W.cell? ⟨w.heap.size, 1, none⟩ = some (.int .i64 nd) := fun W hW => blk_cell (i := 1) HBT.out (HX.out.trans (drew_ext hW)) rfl
        have y2 : ∀ W, Ext wr.drew W → W.cell? ⟨w.heap.size, 2, none⟩ = some (.int .u32 t.nx) := fun W hW => blk_cell (i := 2) HBT.out (HX.out.trans (drew_ext hW)) rfl
        have y3 : ∀ W, Ext wr.drew W → W.cell? ⟨w.heap.size, 3, none⟩ = some (.int .u32 t.ls) := fun W hW => blk_cell (i := 3) HBT.out (HX.out.trans (drew_ext hW)) rfl
        have y4 : ∀ W, Ext wr.drew W → W.cell? ⟨w.heap.size, 4, none⟩ = some (.slice t.A t.n t.c) := fun W hW => blk_cell (i := 4) HBT.out (HX.out.trans (drew_ext hW)) rfl
        have y6 : ∀ W, Ext wr.drew W → W.cell? ⟨w.heap.size + 1, 6, none⟩ = some (.slice (some ad) o.n o.cap) := fun W hW => by rw [← hA]; exact blk_cell (i := 6) HBO.out (HX.out.trans (drew_ext hW)) rfl
        have z0 : ∀ W, Ext wr.drew W → W.cell? (ad.add k) = some (.slice (rA r) (rN r) (rC r)) := fun W hW => ((e0.out.trans HX.out).trans (drew_ext hW)).cell_ HC.out
        have hki : ((k : Nat) : Int) < ((o.n : Nat) : Int) := by omega
        have hsR : (saysL (Right sl nd (rP r))).St Ext := saysL_st
        refine Lex.wp_region_u [0, 1, 2, 3, 4, 5, 6, 7] [] [(6, saysL (Right sl nd (rP r)))] (by kernel_rfl) (by kernel_rfl) (by repeat (first | exact Lex.st_nil | refine Lex.st_cons (by first | exact Lex.nums_st | exact Lex.const_st | exact Lex.such_st | exact Lex.row_st | exact Lex.rowE_st | exact Lex.litR_st | assumption) ?_)) ?_; simp only [Lex.pick, List.getElem?_cons_succ, List.getElem?_cons_zero, List.map_nil]
        repeat (first | (refine Lex.lexU_skip (by rfl) ?_; simp only [Act.put, List.setIfInBounds_toArray, List.set_cons_zero, List.set_cons_succ]) | (refine Lex.lexU_still (by rfl) (by rfl) (by first | exact Base.Ext.refl | exact Lex.Fill.refl) ?_; apply Exists.intro; refine ⟨fun W hW => ?_, ?_⟩; (have hE := Lex.ext_of_cls hW.1; have hE2 := Lex.ext_drew hE; clear hW; go_simp; try with_reducible rfl); simp only [Act.put, List.setIfInBounds_toArray, List.set_cons_zero, List.set_cons_succ]))
        refine Lex.lexU_loose (by rfl) (by rfl) (fun W hW => ?_) ?_
        · have hE := Lex.ext_drew (Lex.ext_of_cls hW.1)
          clear hW
          go_simp
          refine (rRight_calls sl nd t (rA r) (rN r) (rC r) (rP r) _ (Sh.ok_ext ((e0.out.trans HX.out).trans hE) _ _ HROK.out) hrn).mono ?_
          rintro e w5 ⟨he5, b, rfl, hbr⟩
          exact ⟨_, rfl, ⟨b, rfl⟩, he5, ⟨fun h => hbr.1 (by injection h), fun h => by rw [hbr.2 h]⟩⟩
        rintro v ⟨b, rfl⟩
        simp only [Act.put, List.setIfInBounds_toArray, List.set_cons_zero, List.set_cons_succ]
        repeat (first | (refine Lex.lexU_skip (by rfl) ?_; simp only [Act.put, List.setIfInBounds_toArray, List.set_cons_zero, List.set_cons_succ]) | (refine Lex.lexU_still (by rfl) (by rfl) (by first | exact Base.Ext.refl | exact Lex.Fill.refl) ?_; apply Exists.intro; refine ⟨fun W hW => ?_, ?_⟩; (have hE := Lex.ext_of_cls hW.1; have hE2 := Lex.ext_drew hE; clear hW; go_simp; try with_reducible rfl); simp only [Act.put, List.setIfInBounds_toArray, List.set_cons_zero, List.set_cons_succ]))
        refine Lex.lexU_nil (fun W hW => ?_)
        have hE := Lib.hid (Lex.ext_drew hW.1)
        have hbr := (hW.2 6).2 rfl
        have HBR := Lib.hid hbr
        clear hW y0 y1 y2 y3 y4 y6 z0 hbr b6
        refine Lex.onlyN_intro ?_
        cases b with
        | false =>
          go_wp2_with fail
          go_ret
          exact says_no ((e0.out.trans HX.out).trans hE.out) fun hp => by
            have h1 := HBR.out.2 (hp.rows r (List.mem_of_getElem? HRR.out))
            cases h1
        | true =>
          go_wp2_with fail
          go_roundg (o.n - (k + 1))
          case measure => omega
          case rel => exact ⟨k + 1, by omega, rfl, by first | rfl | go_num, Lib.hid ⟨HXX.out.trans hE.out, fun q hq => by
            rw [List.take_add_one, HRR.out] at hq
            rcases List.mem_append.1 hq with hq | hq
            · exact HK.out q hq
            · simp at hq
              subst hq
              exact HBR.out.1 rfl⟩⟩
      · obtain rfl : k = o.n := by omega
        go_wp2_with fail
        go_ret
        have hk := HK.out
        rw [List.take_of_length_le (by rw [HN.out]; exact Nat.le_refl _)] at hk
        obtain ⟨g1, g2, g3, g4, g5, g6, g7⟩ := HALL.out
        exact says_yes (e0.out.trans HX.out) ⟨g1, g2, g3, g4, g5, g6, g7, hk⟩
  · have HBAD : Hid (¬ PlanOk sl nd o) := Lib.hid fun hp => hall ⟨hp.l0, hp.l1, hp.c0, hp.c1, hp.p0, hp.p1, hp.n⟩
    have hb : (decide (o.l < 0) || decide (16384 < o.l) || decide (o.c < 0) || decide (32 < o.c) || decide (o.p < 1) || decide (256 < o.p) || ((o.n : Int) != o.c)) = true := by
      simp only [Bool.or_eq_true, decide_eq_true_eq, bne_iff_ne, ne_eq]
      omega
    clear hall
    go_wp2_with fail
    all_goals
      go_ret
      exact says_no e2.out HBAD.out
end Go.Proofs.Ytipmkddcdnbihaa.Tbl
/- The document's tables: an object is let be there; walked. -/
namespace Go.Proofs.Ytipmkddcdnbihaa.Tbl
open Go.RowKit Base Step Vec Shape Erase
/-- How many of the first objects have lesser names. -/
def posFrom (s : ByteArray) : List Obj → Nat
  | [] => 0
  | o :: l => if Op.bytesLess (name o).toList s.toList = true then posFrom s l + 1 else 0
theorem posFrom_cons (s : ByteArray) (o : Obj) (l : List Obj) : posFrom s (o :: l) = if Op.bytesLess (name o).toList s.toList = true then posFrom s l + 1 else 0 := rfl
theorem ok_take {w : World} {e : Sh} {A : Option Addr} {n c : Nat} {l : List e.T} (h : (Sh.sl e).ok w (A, n, c, l)) (hs : 0 < e.size) (p : Nat) : ∀ ad, A = some ad → ∀ j u, (cellsL e (l.take p))[j]? = some u → w.cell? (ad.add j) = some u := fun ad ha j u hu => by
  rw [← cellsL_take] at hu
  refine ok_cells h hs ad ha j u ?_
  rw [List.getElem?_take] at hu
  split at hu
  · exact hu
  · cases hu
/-- Where a slice lies from its p-th element on. -/
def cutA (A : Option Addr) (p c sz : Nat) : Option Addr := if p = c then A else A.map fun a => a.add (p * sz)
theorem ok_drop {w : World} {e : Sh} {A : Option Addr} {n c : Nat} {l : List e.T} (h : (Sh.sl e).ok w (A, n, c, l)) (hs : 0 < e.size) (p : Nat) : ∀ ad, cutA A p c e.size = some ad → ∀ j u, (cellsL e (l.drop p))[j]? = some u → w.cell? (ad.add j) = some u := fun ad ha j u hu => by
  unfold cutA at ha
  split at ha
  · rename_i hpc
    have h1 := (sl_len h).1
    have h2 := (sl_len h).2.1
    rw [List.drop_of_length_le (by omega)] at hu
    simp [cellsL] at hu
  · obtain ⟨a, rfl, rfl⟩ := Option.map_eq_some_iff.1 ha
    rw [← cellsL_drop, List.getElem?_drop] at hu
    have := ok_cells h hs a rfl _ u hu
    rwa [add_of_add]
theorem cutA_none {A : Option Addr} {p c sz : Nat} (h : cutA A p c sz = none) : A = none := by
  unfold cutA at h
  split at h
  · exact h
  · simpa using h
theorem infoRObj : (Try.prog.info? 200).map (fun i => (i.zero, i.size, i.bytes)) = some (some (.agg #[.int .u32 0, .string ByteArray.empty, .int .i64 0, .int .i64 0, .int .i64 0, .slice none 0 0]), 6, 72) := by kernel_rfl
theorem posFrom_le (s : ByteArray) : ∀ l : List Obj, posFrom s l ≤ l.length
  | [] => Nat.le_refl _
  | o :: l => by
    rw [posFrom_cons]
    have := posFrom_le s l
    split
    · simp; omega
    · exact Nat.zero_le _
/-- Whatever is read there is read here. -/
def Sub (a b : World) : Prop := ∀ ad v, a.cell? ad = some v → b.cell? ad = some v
theorem Sub.ext {a b c : World} (h : Sub a b) (k : Ext b c) : Sub a c := fun ad v hc => k.cell_ (h ad v hc)
theorem OpAt.sub {w w' : World} {o : Op} (h : OpAt w o) (he : Sub w w') : OpAt w' o := ⟨h.num, h.name, h.l, h.c, h.p, Sh.ok_le he _ _ h.rows, h.few, h.each, h.gen, h.node⟩
theorem keepE {w w1 w' W : World} {T : TypeId} {size n c : Nat} {A : Option Addr} {xs : List Value} (h : New w1 w' T size A n c xs) (hT : plainT T = false) (hw : w.heap.size ≤ w1.heap.size) (hk : ∀ i o, w.heap.size ≤ i → w'.heap[i]? = some o → plainO o = false → W.heap[i]? = some o) : New w1 W T size A n c xs :=
  Own.keep h fun g hg => by
    have hlt := Lex.own_ltB h hg
    obtain ⟨o, ho⟩ : ∃ o, w'.heap[g]? = some o := ⟨_, Array.getElem?_eq_getElem hlt⟩
    rw [ho]
    refine hk g o (Nat.le_trans hw (h.foot g hg)) ho ?_
    cases o with
    | cells cs T' f =>
      rcases Decidable.em (T = T') with e | e
      · show plainT T' = false
        rw [← e]
        exact hT
      · exact absurd hg (h.ne ho e)
    | _ => rfl
/-- What the document answers, and the table that it hands on: it is read in what was there ahead (w0) and in what has been laid. -/
def RDid (w0 w : World) (sl nd : Nat) (code : Int) (R : Tb → Prop) (e : Ending) (w' : World) : Prop :=
  ∃ t, e = .returned (.tuple #[tabV sl nd t, .int .i64 code]) ∧ Ext w w' ∧ (∀ W, Sub w0 W → (∀ i o, w.heap.size ≤ i → w'.heap[i]? = some o → plainO o = false → W.heap[i]? = some o) → Doc W t) ∧ R t
abbrev tab0 : Array Value := #[.int .i64 0, .int .i64 0, .int .u32 0, .int .u32 0, .slice none 0 0]
open Classical in
noncomputable def rCommitC (sl nd : Nat) (t : Tb) (o : Op) : Int :=
  if ¬ (NameOk o.name ∧ PlanOk sl nd o) then 1
  else if 0 ≤ nameAt t.objs o.name ∨ 0 ≤ numAt t.objs o.num then 7
  else if o.num ≤ t.ls ∨ t.nx ≤ o.num then 28
  else if 64 ≤ t.n then 20 else 0
def RCommitR (sl nd : Nat) (t : Tb) (o : Op) (code : Int) (t' : Tb) : Prop := (code ≠ 0 → t' = t) ∧ (code = 0 → NameOk o.name ∧ PlanOk sl nd o ∧ t'.nx = t.nx ∧ t'.ls = o.num ∧ t'.objs = t.objs.take (posFrom o.name t.objs) ++ [obOf o] ++ t.objs.drop (posFrom o.name t.objs))
set_option maxRecDepth 100000 in
set_option maxHeartbeats 8000000 in
theorem rCommit_calls (sl nd : Nat) (t : Tb) (o : Op) (w0 w : World) (hw0 : Sub w0 w) (h0 : Doc w0 t) (hn : t.n ≤ 1099511627776) (ho0 : OpAt w0 o) :
    Calls Try.prog 96 #[tabV sl nd t, opV o] w (RDid w0 w sl nd (rCommitC sl nd t o) fun t' => RCommitR sl nd t o (rCommitC sl nd t o) t') := by
  obtain ⟨Q, hQ⟩ : ∃ Q, Q = RDid w0 w sl nd (rCommitC sl nd t o) fun t' => RCommitR sl nd t o (rCommitC sl nd t o) t' := ⟨_, rfl⟩
  have HQ := Lib.hid hQ
  rw [← hQ]
  clear hQ
  have h := Sh.ok_le hw0 _ _ h0
  have ho := ho0.sub hw0
  have H := Lib.hid h
  have HO := Lib.hid ho
  have H0 := Lib.hid h0
  have HO0 := Lib.hid ho0
  have hns := ho.name
  have e0 := Lib.hid (((Ext.new w (.cells (tabC sl nd t) 95)).alloc (.cells (opC o) 89)).alloc (.cells tab0 95))
  have hbt := ((Ext.new (w.alloc (.cells (tabC sl nd t) 95)) (.cells (opC o) 89)).alloc (.cells tab0 95)).at_ (at_new w (.cells (tabC sl nd t) 95))
  have hbo := (Ext.new ((w.alloc (.cells (tabC sl nd t) 95)).alloc (.cells (opC o) 89)) (.cells tab0 95)).at_ (at_new (w.alloc (.cells (tabC sl nd t) 95)) (.cells (opC o) 89))
  have hbz := at_new ((w.alloc (.cells (tabC sl nd t) 95)).alloc (.cells (opC o) 89)) (.cells tab0 95)
  have hsz : (w.alloc (.cells (tabC sl nd t) 95)).heap.size = w.heap.size + 1 := by simp
  have hsz2 : ((w.alloc (.cells (tabC sl nd t) 95)).alloc (.cells (opC o) 89)).heap.size = w.heap.size + 2 := by simp
  rw [hsz] at hbo
  rw [hsz2] at hbz
  clear h ho h0 ho0 hsz hsz2
  -- an answer that leaves the table as it was
  have hno : ∀ (code : Int) (W : World), code ≠ 0 → rCommitC sl nd t o = code → Ext w W → Q (.returned (.tuple #[tabV sl nd t, .int .i64 code])) W := fun code W h0 hc he => by
    rw [HQ.out, hc]
    exact ⟨t, rfl, he, fun W hW _ => Sh.ok_le hW _ _ H0.out, fun _ => rfl, fun k => absurd k h0⟩
  have HNO := Lib.hid hno
  clear hno
  go_enter Try.func96, Try.ntmps96
  go_upto_region 1 with fail
  generalize ((w.alloc (.cells (tabC sl nd t) 95)).alloc (.cells (opC o) 89)).alloc (.cells tab0 95) = w1 at *
  have HBT := Lib.hid hbt
  have HBO := Lib.hid hbo
  have HBZ := Lib.hid hbz
  have b2 : w1.cell? ⟨w.heap.size + 1, 2, none⟩ = some (.string o.name) := blk_cell (i := 2) hbo (Ext.refl _) rfl
  clear hbt hbo hbz
  go_wp2_with fail
  refine (rRightName_calls o.name w1 hns).mono ?_
  rintro e w2 ⟨he2, b, rfl, hbr⟩
  have HE2 := Lib.hid he2
  cases b with
  | false =>
    have HC : Hid (rCommitC sl nd t o = 1) := Lib.hid (by
      unfold rCommitC
      rw [if_pos]
      intro hh
      have := hbr.2 hh.1
      cases this)
    have ht2 := he2.at_ HBT.out
    have hz2 := he2.at_ HBZ.out
    have t0 := blk_cell (i := 0) ht2 (Ext.refl _) rfl; have tf0 := Pack.free_of ht2 0; have t1 := blk_cell (i := 1) ht2 (Ext.refl _) rfl; have tf1 := Pack.free_of ht2 1; have t2 := blk_cell (i := 2) ht2 (Ext.refl _) rfl; have tf2 := Pack.free_of ht2 2; have t3 := blk_cell (i := 3) ht2 (Ext.refl _) rfl; have tf3 := Pack.free_of ht2 3; have t4 := blk_cell (i := 4) ht2 (Ext.refl _) rfl; have tf4 := Pack.free_of ht2 4
    clear he2 hbr b2
    go_wp2_with (refine RowSt.wpList_put 95 _ _ rfl rfl rfl (w.heap.size + 2) (tabC sl nd t) rfl rfl 95 _ hz2 (by kernel_rfl) rfl (by simp [Value.oneCell']) ?_; intro w8 hb8 hc8)
    refine bodyPost_ret (v := .tuple #[tabV sl nd t, .int .i64 1]) (RowSt.results_cell_tmp (p := 4) (q := 5) rfl _ _ (w.heap.size + 2) 95 _ (0, 0) _ rfl hb8 Try.underlying95 rfl (by kernel_rfl)) rfl ?_
    exact HNO.out _ _ (by decide) HC.out ((e0.out.trans HE2.out).chg hc8 fun i hi => by have hi : i = w.heap.size + 2 := hi; omega)
  | true =>
    have HNM := Lib.hid (hbr.1 rfl)
    have ht2 := he2.at_ HBT.out
    have ho2 := he2.at_ HBO.out
    have t0 := blk_cell (i := 0) ht2 (Ext.refl _) rfl; have tf0 := Pack.free_of ht2 0; have t1 := blk_cell (i := 1) ht2 (Ext.refl _) rfl; have tf1 := Pack.free_of ht2 1; have t2 := blk_cell (i := 2) ht2 (Ext.refl _) rfl; have tf2 := Pack.free_of ht2 2; have t3 := blk_cell (i := 3) ht2 (Ext.refl _) rfl; have tf3 := Pack.free_of ht2 3; have t4 := blk_cell (i := 4) ht2 (Ext.refl _) rfl; have tf4 := Pack.free_of ht2 4
    clear he2 hbr b2
    go_wp2_with (refine wpList_load_rowG rfl 89 _ rfl (w.heap.size + 1) rfl 89 (opC o) (0, 0) _ ho2 Try.underlying89 rfl (by kernel_rfl) ?_)
    clear t0 t1 t2 t3 t4 tf0 tf1 tf2 tf3 tf4 ht2 ho2
    refine (rPlan_calls sl nd t o w2 (HO.out.ext (e0.out.trans HE2.out)).rows HO.out.few HO.out.each).mono ?_
    rintro e w3 ⟨he3, b, rfl, hbr⟩
    have HE3 := Lib.hid (HE2.out.trans he3)
    have ht3 := HE3.out.at_ HBT.out
    have ho3 := HE3.out.at_ HBO.out
    have hz3 := HE3.out.at_ HBZ.out
    have t0 := blk_cell (i := 0) ht3 (Ext.refl _) rfl; have tf0 := Pack.free_of ht3 0; have t1 := blk_cell (i := 1) ht3 (Ext.refl _) rfl; have tf1 := Pack.free_of ht3 1; have t2 := blk_cell (i := 2) ht3 (Ext.refl _) rfl; have tf2 := Pack.free_of ht3 2; have t3 := blk_cell (i := 3) ht3 (Ext.refl _) rfl; have tf3 := Pack.free_of ht3 3; have t4 := blk_cell (i := 4) ht3 (Ext.refl _) rfl; have tf4 := Pack.free_of ht3 4
    cases b with
    | false =>
      have HC : Hid (rCommitC sl nd t o = 1) := Lib.hid (by
        unfold rCommitC
        rw [if_pos]
        intro hh
        have := hbr.2 hh.2
        cases this)
      clear he3 hbr ht3 ho3
      go_wp2_with (refine RowSt.wpList_put 95 _ _ rfl rfl rfl (w.heap.size + 2) (tabC sl nd t) rfl rfl 95 _ hz3 (by kernel_rfl) rfl (by simp [Value.oneCell']) ?_; intro w8 hb8 hc8)
      refine bodyPost_ret (v := .tuple #[tabV sl nd t, .int .i64 1]) (RowSt.results_cell_tmp (p := 4) (q := 5) rfl _ _ (w.heap.size + 2) 95 _ (0, 0) _ rfl hb8 Try.underlying95 rfl (by kernel_rfl)) rfl ?_
      exact HNO.out _ _ (by decide) HC.out ((e0.out.trans HE3.out).chg hc8 fun i hi => by have hi : i = w.heap.size + 2 := hi; omega)
    | true =>
      have HPL := Lib.hid (hbr.1 rfl)
      have o1 := blk_cell (i := 1) ho3 (Ext.refl _) rfl
      have o2 := blk_cell (i := 2) ho3 (Ext.refl _) rfl
      clear he3 hbr hz3
      go_wp2_with fail
      refine (rFind_calls sl nd t o.name w3 (Sh.ok_ext (e0.out.trans HE3.out) _ _ H.out) hn).mono ?_
      rintro e w4 ⟨rfl, he4⟩
      have HE4 := Lib.hid (HE3.out.trans he4)
      clear he4 t0 t1 t2 t3 t4 tf0 tf1 tf2 tf3 tf4 ht3 ho3 o1 o2
      have ht4 := HE4.out.at_ HBT.out
      have ho4 := HE4.out.at_ HBO.out
      have hz4 := HE4.out.at_ HBZ.out
      have t0 := blk_cell (i := 0) ht4 (Ext.refl _) rfl; have tf0 := Pack.free_of ht4 0; have t1 := blk_cell (i := 1) ht4 (Ext.refl _) rfl; have tf1 := Pack.free_of ht4 1; have t2 := blk_cell (i := 2) ht4 (Ext.refl _) rfl; have tf2 := Pack.free_of ht4 2; have t3 := blk_cell (i := 3) ht4 (Ext.refl _) rfl; have tf3 := Pack.free_of ht4 3; have t4 := blk_cell (i := 4) ht4 (Ext.refl _) rfl; have tf4 := Pack.free_of ht4 4
      have o1 := blk_cell (i := 1) ho4 (Ext.refl _) rfl
      by_cases hfi : 0 ≤ nameAt t.objs o.name
      · have HC : Hid (rCommitC sl nd t o = 7) := Lib.hid (by
          unfold rCommitC
          rw [if_neg (fun hh => hh ⟨HNM.out, HPL.out⟩), if_pos (.inl hfi)])
        have hd1 : decide (0 ≤ nameAt t.objs o.name) = true := decide_eq_true hfi
        clear hfi
        go_wp2_with (refine RowSt.wpList_put 95 _ _ rfl rfl rfl (w.heap.size + 2) (tabC sl nd t) rfl rfl 95 _ hz4 (by kernel_rfl) rfl (by simp [Value.oneCell']) ?_; intro w8 hb8 hc8)
        refine bodyPost_ret (v := .tuple #[tabV sl nd t, .int .i64 7]) (RowSt.results_cell_tmp (p := 4) (q := 5) rfl _ _ (w.heap.size + 2) 95 _ (0, 0) _ rfl hb8 Try.underlying95 rfl (by kernel_rfl)) rfl ?_
        exact HNO.out _ _ (by decide) HC.out ((e0.out.trans HE4.out).chg hc8 fun i hi => by have hi : i = w.heap.size + 2 := hi; omega)
      · have hd1 : decide (0 ≤ nameAt t.objs o.name) = false := decide_eq_false hfi
        go_wp2_with fail
        refine (rNumbered_calls sl nd t o.num w4 (Sh.ok_ext (e0.out.trans HE4.out) _ _ H.out) hn).mono ?_
        rintro e w5 ⟨rfl, he5⟩
        have HE5 := Lib.hid (HE4.out.trans he5)
        have HFI := Lib.hid hfi
        clear he5 t0 t1 t2 t3 t4 tf0 tf1 tf2 tf3 tf4 ht4 ho4 o1 hz4 hd1 hfi
        have ht5 := HE5.out.at_ HBT.out
        have ho5 := HE5.out.at_ HBO.out
        have hz5 := HE5.out.at_ HBZ.out
        have t0 := blk_cell (i := 0) ht5 (Ext.refl _) rfl; have tf0 := Pack.free_of ht5 0; have t1 := blk_cell (i := 1) ht5 (Ext.refl _) rfl; have tf1 := Pack.free_of ht5 1; have t2 := blk_cell (i := 2) ht5 (Ext.refl _) rfl; have tf2 := Pack.free_of ht5 2; have t3 := blk_cell (i := 3) ht5 (Ext.refl _) rfl; have tf3 := Pack.free_of ht5 3; have t4 := blk_cell (i := 4) ht5 (Ext.refl _) rfl; have tf4 := Pack.free_of ht5 4
        have o1 := blk_cell (i := 1) ho5 (Ext.refl _) rfl
        by_cases hnu : 0 ≤ numAt t.objs o.num
        · have HC : Hid (rCommitC sl nd t o = 7) := Lib.hid (by
            unfold rCommitC
            rw [if_neg (fun hh => hh ⟨HNM.out, HPL.out⟩), if_pos (.inr hnu)])
          have hd1 : decide (0 ≤ numAt t.objs o.num) = true := decide_eq_true hnu
          clear hnu
          go_wp2_with (refine RowSt.wpList_put 95 _ _ rfl rfl rfl (w.heap.size + 2) (tabC sl nd t) rfl rfl 95 _ hz5 (by kernel_rfl) rfl (by simp [Value.oneCell']) ?_; intro w8 hb8 hc8)
          refine bodyPost_ret (v := .tuple #[tabV sl nd t, .int .i64 7]) (RowSt.results_cell_tmp (p := 4) (q := 5) rfl _ _ (w.heap.size + 2) 95 _ (0, 0) _ rfl hb8 Try.underlying95 rfl (by kernel_rfl)) rfl ?_
          exact HNO.out _ _ (by decide) HC.out ((e0.out.trans HE5.out).chg hc8 fun i hi => by have hi : i = w.heap.size + 2 := hi; omega)
        · have hd1 : decide (0 ≤ numAt t.objs o.num) = false := decide_eq_false hnu
          have HNU := Lib.hid hnu
          clear hnu
          by_cases hst : o.num ≤ t.ls ∨ t.nx ≤ o.num
          · have HC : Hid (rCommitC sl nd t o = 28) := Lib.hid (by
              unfold rCommitC
              rw [if_neg (fun hh => hh ⟨HNM.out, HPL.out⟩), if_neg (fun hh => by have h1 := HFI.out; have h2 := HNU.out; omega), if_pos hst])
            by_cases hs1 : o.num ≤ t.ls
            · have hd2 : decide (o.num ≤ t.ls) = true := decide_eq_true hs1
              clear hst hs1
              go_wp2_with (refine RowSt.wpList_put 95 _ _ rfl rfl rfl (w.heap.size + 2) (tabC sl nd t) rfl rfl 95 _ hz5 (by kernel_rfl) rfl (by simp [Value.oneCell']) ?_; intro w8 hb8 hc8)
              refine bodyPost_ret (v := .tuple #[tabV sl nd t, .int .i64 28]) (RowSt.results_cell_tmp (p := 4) (q := 5) rfl _ _ (w.heap.size + 2) 95 _ (0, 0) _ rfl hb8 Try.underlying95 rfl (by kernel_rfl)) rfl ?_
              exact HNO.out _ _ (by decide) HC.out ((e0.out.trans HE5.out).chg hc8 fun i hi => by have hi : i = w.heap.size + 2 := hi; omega)
            · have hd2 : decide (o.num ≤ t.ls) = false := decide_eq_false hs1
              have hd3 : decide (t.nx ≤ o.num) = true := decide_eq_true (hst.resolve_left hs1)
              clear hst hs1
              go_wp2_with (refine RowSt.wpList_put 95 _ _ rfl rfl rfl (w.heap.size + 2) (tabC sl nd t) rfl rfl 95 _ hz5 (by kernel_rfl) rfl (by simp [Value.oneCell']) ?_; intro w8 hb8 hc8)
              refine bodyPost_ret (v := .tuple #[tabV sl nd t, .int .i64 28]) (RowSt.results_cell_tmp (p := 4) (q := 5) rfl _ _ (w.heap.size + 2) 95 _ (0, 0) _ rfl hb8 Try.underlying95 rfl (by kernel_rfl)) rfl ?_
              exact HNO.out _ _ (by decide) HC.out ((e0.out.trans HE5.out).chg hc8 fun i hi => by have hi : i = w.heap.size + 2 := hi; omega)
          · have hd2 : decide (o.num ≤ t.ls) = false := decide_eq_false fun hh => hst (.inl hh)
            have hd3 : decide (t.nx ≤ o.num) = false := decide_eq_false fun hh => hst (.inr hh)
            have HST := Lib.hid hst
            clear hst
            by_cases hfu : 64 ≤ t.n
            · have HC : Hid (rCommitC sl nd t o = 20) := Lib.hid (by
                unfold rCommitC
                rw [if_neg (fun hh => hh ⟨HNM.out, HPL.out⟩), if_neg (fun hh => by have h1 := HFI.out; have h2 := HNU.out; omega), if_neg (fun hh => by have h3 := HST.out; omega), if_pos hfu])
              have hd4 : (64 : Int) ≤ ((t.n : Nat) : Int) := by omega
              clear hfu
              go_wp2_with (refine RowSt.wpList_put 95 _ _ rfl rfl rfl (w.heap.size + 2) (tabC sl nd t) rfl rfl 95 _ hz5 (by kernel_rfl) rfl (by simp [Value.oneCell']) ?_; intro w8 hb8 hc8)
              refine bodyPost_ret (v := .tuple #[tabV sl nd t, .int .i64 20]) (RowSt.results_cell_tmp (p := 4) (q := 5) rfl _ _ (w.heap.size + 2) 95 _ (0, 0) _ rfl hb8 Try.underlying95 rfl (by kernel_rfl)) rfl ?_
              exact HNO.out _ _ (by decide) HC.out ((e0.out.trans HE5.out).chg hc8 fun i hi => by have hi : i = w.heap.size + 2 := hi; omega)
            · have HC : Hid (rCommitC sl nd t o = 0) := Lib.hid (by
                unfold rCommitC
                rw [if_neg (fun hh => hh ⟨HNM.out, HPL.out⟩), if_neg (fun hh => by have h1 := HFI.out; have h2 := HNU.out; omega), if_neg (fun hh => by have h3 := HST.out; omega), if_neg hfu])
              have hd4 : ¬ (64 : Int) ≤ ((t.n : Nat) : Int) := by omega
              have HFU := Lib.hid hfu
              clear hfu
              go_upto_region 10 with fail
              have hs6 := set_blk (i := 3) ht5 (.int .u32 o.num)
              have hc6 : Chg (fun i => i = w.heap.size) w5 (w5.setCell ⟨w.heap.size, 3, none⟩ (.int .u32 o.num)) := (Chg.refl (fun i => i = w.heap.size) w5).setCell (p := ⟨w.heap.size, 3, none⟩) rfl _
              have ho6 := hc6.at_ ho5 (by omega)
              have hz6 := hc6.at_ hz5 (by omega)
              have HE6 := Lib.hid ((e0.out.trans HE5.out).chg hc6 fun i hi => by have hi : i = w.heap.size := hi; omega)
              have HBT6 : Hid ((w5.setCell ⟨w.heap.size, 3, none⟩ (.int .u32 o.num)).heap[w.heap.size]? = some (.cells #[.int .i64 sl, .int .i64 nd, .int .u32 t.nx, .int .u32 o.num, .slice t.A t.n t.c] 95 (0, 0))) := Lib.hid (by simpa using hs6)
              have HBO6 := Lib.hid ho6
              have HBZ6 := Lib.hid hz6
              clear hs6 hc6 ho6 hz6 t0 t1 t2 t3 t4 tf0 tf1 tf2 tf3 tf4 ht5 ho5 o1 hz5 hd1 hd2 hd3 hd4
              generalize w5.setCell ⟨w.heap.size, 3, none⟩ (.int .u32 o.num) = w6 at *
              have hln := (sl_len H.out).1
              have hnc := (sl_len H.out).2.1
              have HL := Lib.hid hln
              clear hln
              go_upto_block 0 with fail
              go_cut [6] (fun v wx => v = .int .i64 (posFrom o.name t.objs : Nat) ∧ Hid (Ext w6 wx))
              case first =>
                go_wp2_with fail
                go_loopg [6] t.n (fun g i wr => ∃ a : Nat, a ≤ t.n ∧ g = t.n - a ∧ i = .int .i64 a ∧ Hid (a + posFrom o.name (t.objs.drop a) = posFrom o.name t.objs) ∧ Hid (Ext w6 wr))
                case atStart => exact ⟨0, Nat.zero_le _, rfl, rfl, Lib.hid (by simp), Lib.hid (Ext.refl _)⟩
                case round =>
                  obtain ⟨a, han, rfl, rfl, HN, HX⟩ := hrel
                  by_cases hlt : a < t.n
                  · obtain ⟨ad, ob, hA, hob, hat, _⟩ := obj_at H.out hlt
                    obtain ⟨c0, c1, c2, c3, c4, c5⟩ := (hat.ext HE6.out).ext HX.out
                    have hst := HN.out
                    have hal : a < t.objs.length := by rw [HL.out]; exact hlt
                    rw [List.drop_eq_getElem_cons hal] at hst
                    have hoe : t.objs[a] = ob := by rw [List.getElem?_eq_getElem hal] at hob; exact Option.some.inj hob
                    rw [hoe] at hst
                    rw [posFrom_cons] at hst
                    have HST2 := Lib.hid hst
                    have b4 : wr.cell? ⟨w.heap.size, 4, none⟩ = some (.slice (some ad) t.n t.c) := by rw [← hA]; exact blk_cell (i := 4) HBT6.out HX.out rfl
                    have b2 : wr.cell? ⟨w.heap.size + 1, 2, none⟩ = some (.string o.name) := blk_cell (i := 2) HBO6.out HX.out rfl
                    have hrng : ((a : Nat) : Int) < ((t.n : Nat) : Int) := by omega
                    clear hat hob hst HN hoe hal c0 c2 c3 c4 c5
                    cases hk : Op.bytesLess (name ob).toList o.name.toList with
                    | true =>
                      have hst := HST2.out
                      rw [hk, if_pos rfl] at hst
                      have HS3 : Hid (a + 1 + posFrom o.name (List.drop (a + 1) t.objs) = posFrom o.name t.objs) := Lib.hid (by rw [← hst]; omega)
                      clear hst HST2
                      go_upto_region 11 with fail
                      go_quiet (fail)
                      have HXN := Lib.hid (HX.out.drewN nq)
                      go_wp2_with fail
                      go_roundg (t.n - (a + 1))
                      case measure => omega
                      case rel => exact ⟨a + 1, by omega, rfl, by first | rfl | go_num, HS3, HXN⟩
                    | false =>
                      have hst := HST2.out
                      rw [hk, if_neg Bool.false_ne_true] at hst
                      have HS3 : Hid (posFrom o.name t.objs = a) := Lib.hid (by rw [← hst]; omega)
                      clear hst HST2
                      go_upto_region 11 with fail
                      go_quiet (fail)
                      have HXN := Lib.hid (HX.out.drewN nq)
                      go_wp2_with fail
                      go_meet
                      exact ⟨by rw [HS3.out], HXN⟩
                  · obtain rfl : a = t.n := by omega
                    have hst := HN.out
                    rw [List.drop_of_length_le (by rw [HL.out]; exact Nat.le_refl _)] at hst
                    have HS3 : Hid (posFrom o.name t.objs = t.n) := Lib.hid (by rw [← hst]; rfl)
                    have b4 : wr.cell? ⟨w.heap.size, 4, none⟩ = some (.slice t.A t.n t.c) := blk_cell (i := 4) HBT6.out HX.out rfl
                    clear hst HN
                    go_upto_region 11 with fail
                    go_quiet (fail)
                    have HXN := Lib.hid (HX.out.drewN nq)
                    go_wp2_with fail
                    go_meet
                    exact ⟨by rw [HS3.out], HXN⟩
              case rest =>
                obtain ⟨rfl, HX7⟩ := hcut
                have hpl := posFrom_le o.name t.objs
                rw [HL.out] at hpl
                generalize hpp : posFrom o.name t.objs = p at *
                have HPP := Lib.hid hpp
                clear hpp
                go_upto_region 13 with fail
                have hE7 := HE6.out.trans HX7.out
                have hA0 := (sl_len H.out).2.2.2
                have hcm := (sl_len H.out).2.2.1
                have ht7 := HX7.out.at_ HBT6.out
                have ho7 := HX7.out.at_ HBO6.out
                have y4 : ∀ W, Ext wc.drew W → W.cell? ⟨w.heap.size, 4, none⟩ = some (.slice t.A t.n t.c) := fun W hW => blk_cell (i := 4) ht7 (drew_ext hW) rfl
                have z1 : ∀ W, Ext wc.drew W → W.cell? ⟨w.heap.size + 1, 1, none⟩ = some (.int .u32 o.num) := fun W hW => blk_cell (i := 1) ho7 (drew_ext hW) rfl
                have z2 : ∀ W, Ext wc.drew W → W.cell? ⟨w.heap.size + 1, 2, none⟩ = some (.string o.name) := fun W hW => blk_cell (i := 2) ho7 (drew_ext hW) rfl
                have z3 : ∀ W, Ext wc.drew W → W.cell? ⟨w.heap.size + 1, 3, none⟩ = some (.int .i64 o.l) := fun W hW => blk_cell (i := 3) ho7 (drew_ext hW) rfl
                have z4 : ∀ W, Ext wc.drew W → W.cell? ⟨w.heap.size + 1, 4, none⟩ = some (.int .i64 o.c) := fun W hW => blk_cell (i := 4) ho7 (drew_ext hW) rfl
                have z5 : ∀ W, Ext wc.drew W → W.cell? ⟨w.heap.size + 1, 5, none⟩ = some (.int .i64 o.p) := fun W hW => blk_cell (i := 5) ho7 (drew_ext hW) rfl
                have z6 : ∀ W, Ext wc.drew W → W.cell? ⟨w.heap.size + 1, 6, none⟩ = some (.slice o.A o.n o.cap) := fun W hW => blk_cell (i := 6) ho7 (drew_ext hW) rfl
                have HLEN1 : (cellsL objS (t.objs.take p)).length = p * 6 := by rw [cellsL_length, List.length_take, HL.out, Nat.min_eq_left hpl]; rfl
                have HLEN2 : (cellsL objS (t.objs.drop p)).length = (t.n - p) * 6 := by rw [cellsL_length, List.length_drop, HL.out]; rfl
                have HL1 := Lib.hid HLEN1
                have HL2 := Lib.hid HLEN2
                have HB7 := Lib.hid ht7
                have HE7 := Lib.hid hE7
                have hd0 : Ext w wc.drew := hE7.trans (Ext.drew (Ext.refl _))
                have HD0 := Lib.hid hd0
                clear HLEN1 HLEN2 ht7 ho7 hE7 hd0
                refine Lex.wp_region_r [0, 1, 2, 3, 4, 5, 6, 7, 8, 9, 10, 11, 12, 13, 14, 15, 16, 17, 18, 19, 20, 21, 22] [23] [(5, 0), (16, 5), (21, 16)] [(0, Lex.rowR wc.drew 200 6 0 []), (5, Lex.rowR wc.drew 200 6 p (cellsL objS (t.objs.take p))), (15, Lex.rowR wc.drew 200 6 1 (objC (obOf o))), (16, Lex.rowR wc.drew 200 6 (p + 1) (cellsL objS (t.objs.take p) ++ objC (obOf o))), (21, Lex.rowR wc.drew 200 6 (t.n + 1) (cellsL objS (t.objs.take p) ++ objC (obOf o) ++ cellsL objS (t.objs.drop p)))] (by kernel_rfl) (by kernel_rfl) (by kernel_rfl) (by repeat (first | exact Lex.ok_nilR | refine Lex.ok_consR (by first | exact Lex.rowR_ok | exact Tbl.rdR_ok | assumption) ?_)) ?_; simp only [Lex.pick, List.getElem?_cons_succ, List.getElem?_cons_zero, List.map_cons, List.map_nil]
                refine Lex.lexR_loose (by rfl) (by rfl) (fun W hW hAP => ?_) ?_
                · have hE := hW.1
                  clear hW
                  go_simp
                  exact Lex.rowR_new hE.size (Ext.new _ _) (own_empty (at_new _ _) (Nat.le_refl _))
                rintro v fx ⟨A0, c0, rfl⟩
                simp only [Act.put, List.setIfInBounds_toArray, List.set_cons_zero, List.set_cons_succ]
                repeat (first | (refine Lex.lexR_skip (by rfl) ?_; simp only [Act.put, List.setIfInBounds_toArray, List.set_cons_zero, List.set_cons_succ]) | (refine Lex.lexR_still (by rfl) (by rfl) ?_; apply Exists.intro; refine ⟨fun W hW => ?_, ?_⟩; (have hE := hW; have hE2 := Lex.ext_drew hE; clear hW; go_simp; try with_reducible rfl); simp only [Act.put, List.setIfInBounds_toArray, List.set_cons_zero, List.set_cons_succ]))
                refine Lex.lexR_still (by rfl) (by rfl) ⟨.slice t.A p t.c, fun W hW => ?_, ?_⟩
                · have hE := hW
                  clear hW
                  have q1 : ((p : Nat) : Int) ≤ ((t.c : Nat) : Int) := by omega
                  cases hAA : t.A with
                  | none =>
                    have h1 := hA0 hAA
                    have h2 : p = 0 := by omega
                    subst h2
                    rw [h1]
                    go_simp
                  | some ad =>
                    go_simp
                simp only [Act.put, List.setIfInBounds_toArray, List.set_cons_zero, List.set_cons_succ]
                refine Lex.lexR_loose (by rfl) (by rfl) (fun W hW hAP => ?_) ?_
                · obtain ⟨hown, hfo⟩ := ((hW.2 0 (by kernel_rfl) rfl).2 rfl) _ _ rfl
                  have hE := hW.1
                  clear hW
                  refine Lex.app_looseR (.tmp 70) (.tmp 74) _ rfl 200 _ 6 72 Try.underlying93 infoRObj rfl (by decide) (by decide) rfl hown (fun i hi => ⟨0, by simp, .inr ⟨rfl, hfo i hi⟩⟩) rfl HL1.out (fun h => by have := hA0 h; omega) (fun ad ha j u hu => (HD0.out.trans hE).cell_ (ok_take H.out (by decide) p ad ha j u hu)) (cellsL_one_ _ _) (by omega) hE.size (Nat.zero_add _) rfl
                rintro v fx ⟨A1, c1, rfl⟩
                simp only [Act.put, List.setIfInBounds_toArray, List.set_cons_zero, List.set_cons_succ]
                repeat (first | (refine Lex.lexR_skip (by rfl) ?_; simp only [Act.put, List.setIfInBounds_toArray, List.set_cons_zero, List.set_cons_succ]) | (refine Lex.lexR_still (by rfl) (by rfl) ?_; apply Exists.intro; refine ⟨fun W hW => ?_, ?_⟩; (have hE := hW; have hE2 := Lex.ext_drew hE; clear hW; go_simp; try with_reducible rfl); simp only [Act.put, List.setIfInBounds_toArray, List.set_cons_zero, List.set_cons_succ]))
                refine Lex.lexR_loose (by rfl) (by rfl) (fun W hW hAP => ?_) ?_
                · have hE := hW.1
                  clear hW
                  go_simp
                  exact Lex.rowR_new hE.size (Ext.new _ _) (Lex.own_lit (by simp) (by decide))
                rintro v fx ⟨A2, c2, rfl⟩
                simp only [Act.put, List.setIfInBounds_toArray, List.set_cons_zero, List.set_cons_succ]
                refine Lex.lexR_loose (by rfl) (by rfl) (fun W hW hAP => ?_) ?_
                · obtain ⟨hown, hfo⟩ := ((hW.2 5 (by kernel_rfl) rfl).1.2 rfl) _ _ rfl
                  obtain ⟨hlit, _⟩ := ((hW.2 15 (by kernel_rfl) rfl).2 rfl) _ _ rfl
                  have hE := hW.1
                  clear hW
                  refine Lex.app_looseR (.tmp 75) (.tmp 85) _ rfl 200 _ 6 72 Try.underlying93 infoRObj rfl (by decide) (by decide) rfl hown (fun i hi => ⟨5, by simp, .inl (.inr ⟨rfl, hfo i hi⟩)⟩) rfl rfl (fun h => by subst h; have := hlit.cap.2 rfl; have := hlit.cap.1; omega) (Lex.own_cells hlit) (by simp [Value.oneCell']) (by omega) hE.size rfl rfl
                rintro v fx ⟨A3, c3, rfl⟩
                simp only [Act.put, List.setIfInBounds_toArray, List.set_cons_zero, List.set_cons_succ]
                iterate 3 (first | (refine Lex.lexR_skip (by rfl) ?_; simp only [Act.put, List.setIfInBounds_toArray, List.set_cons_zero, List.set_cons_succ]) | (refine Lex.lexR_still (by rfl) (by rfl) ?_; apply Exists.intro; refine ⟨fun W hW => ?_, ?_⟩; (have hE := hW; have hE2 := Lex.ext_drew hE; clear hW; go_simp; try with_reducible rfl); simp only [Act.put, List.setIfInBounds_toArray, List.set_cons_zero, List.set_cons_succ]))
                refine Lex.lexR_still (by rfl) (by rfl) ⟨.slice (cutA t.A p t.c 6) (t.n - p) (t.c - p), fun W hW => ?_, ?_⟩
                · have hE := hW
                  clear hW
                  have q1 : ((p : Nat) : Int) ≤ ((t.n : Nat) : Int) := by omega
                  have q2 : ((t.n : Nat) : Int) ≤ ((t.c : Nat) : Int) := by omega
                  unfold cutA
                  cases hAA : t.A with
                  | none =>
                    have h1 := hA0 hAA
                    have h2 : p = 0 := by omega
                    have h3 : t.n = 0 := by omega
                    subst h2
                    rw [h1, h3]
                    go_simp
                  | some ad =>
                    by_cases hpc : p = t.c
                    · go_simp
                      exact fun h => absurd h (by omega)
                    · go_simp
                      exact fun h => absurd h.symm hpc
                simp only [Act.put, List.setIfInBounds_toArray, List.set_cons_zero, List.set_cons_succ]
                refine Lex.lexR_loose (by rfl) (by rfl) (fun W hW hAP => ?_) ?_
                · obtain ⟨hown, hfo⟩ := ((hW.2 16 (by kernel_rfl) rfl).2 rfl) _ _ rfl
                  have hE := hW.1
                  clear hW
                  refine Lex.app_looseR (.tmp 86) (.tmp 90) _ rfl 200 _ 6 72 Try.underlying93 infoRObj rfl (by decide) (by decide) rfl hown (fun i hi => ⟨16, by simp, .inr ⟨rfl, hfo i hi⟩⟩) rfl HL2.out (fun h => by have := hA0 (cutA_none h); omega) (fun ad ha j u hu => (HD0.out.trans hE).cell_ (ok_drop H.out (by decide) p ad ha j u hu)) (cellsL_one_ _ _) (by omega) hE.size (by omega) rfl
                rintro v fx ⟨A4, c4, rfl⟩
                simp only [Act.put, List.setIfInBounds_toArray, List.set_cons_zero, List.set_cons_succ]
                repeat (first | (refine Lex.lexR_skip (by rfl) ?_; simp only [Act.put, List.setIfInBounds_toArray, List.set_cons_zero, List.set_cons_succ]) | (refine Lex.lexR_still (by rfl) (by rfl) ?_; apply Exists.intro; refine ⟨fun W hW => ?_, ?_⟩; (have hE := hW; have hE2 := Lex.ext_drew hE; clear hW; go_simp; try with_reducible rfl); simp only [Act.put, List.setIfInBounds_toArray, List.set_cons_zero, List.set_cons_succ]))
                refine Lex.lexR_nil (fun W hW hF => ?_)
                have HOWN := Lib.hid (((hF 21 rfl).2 rfl) _ _ rfl).1
                have HEW := Lib.hid (Lex.ext_drew hW)
                clear hW hF y4 z1 z2 z3 z4 z5 z6
                have hbw := HEW.out.at_ HB7.out
                have hzw := HEW.out.at_ (HX7.out.at_ HBZ6.out)
                have hs8 := set_blk (i := 4) hbw (.slice A4 (t.n + 1) c4)
                have hc8 : Chg (fun i => i = w.heap.size) W (W.setCell ⟨w.heap.size, 4, none⟩ (.slice A4 (t.n + 1) c4)) := (Chg.refl (fun i => i = w.heap.size) W).setCell (p := ⟨w.heap.size, 4, none⟩) rfl _
                have HZ8 := Lib.hid (hc8.at_ hzw (by omega))
                have hwc : w.heap.size < wc.heap.size := Pack.lt_of_at HB7.out
                have HO8 : Hid (New wc.drew (W.setCell ⟨w.heap.size, 4, none⟩ (.slice A4 (t.n + 1) c4)) 200 6 A4 (t.n + 1) c4 (cellsL objS (t.objs.take p) ++ objC (obOf o) ++ cellsL objS (t.objs.drop p))) := Lib.hid (HOWN.out.chg hc8 fun i (hi : wc.heap.size ≤ i) k => by omega)
                have hb8' : (W.setCell ⟨w.heap.size, 4, none⟩ (.slice A4 (t.n + 1) c4)).heap[w.heap.size]? = some (.cells (tabC sl nd ⟨t.nx, o.num, A4, t.n + 1, c4, t.objs.take p ++ [obOf o] ++ t.objs.drop p⟩) 95 (0, 0)) := by simpa using hs8
                have HE8 := Lib.hid ((HE7.out.trans HEW.out).chg hc8 fun i hi => by have hi : i = w.heap.size := hi; omega)
                have HB8 := Lib.hid hb8'
                have f4 := Pack.free_of hbw 4
                have g4 := blk_cell (i := 4) hbw (Ext.refl _) rfl
                clear hs8 hc8 hzw hb8'
                go_wp2_with fail
                try simp only [Lex.onlyN]
                go_upto_region 14 with fail
                generalize W.setCell ⟨w.heap.size, 4, none⟩ (.slice A4 (t.n + 1) c4) = w8 at *
                have hb8 := HB8.out
                have t0 := blk_cell (i := 0) hb8 (Ext.refl _) rfl; have tf0 := Pack.free_of hb8 0; have t1 := blk_cell (i := 1) hb8 (Ext.refl _) rfl; have tf1 := Pack.free_of hb8 1; have t2 := blk_cell (i := 2) hb8 (Ext.refl _) rfl; have tf2 := Pack.free_of hb8 2; have t3 := blk_cell (i := 3) hb8 (Ext.refl _) rfl; have tf3 := Pack.free_of hb8 3; have t4 := blk_cell (i := 4) hb8 (Ext.refl _) rfl; have tf4 := Pack.free_of hb8 4
                clear f4 g4 hbw
                go_wp2_with (refine RowSt.wpList_put 95 _ _ rfl rfl rfl (w.heap.size + 2) (tabC sl nd ⟨t.nx, o.num, A4, t.n + 1, c4, t.objs.take p ++ [obOf o] ++ t.objs.drop p⟩) rfl rfl 95 _ HZ8.out (by kernel_rfl) rfl (by simp [Value.oneCell']) ?_; intro w9 hb9 hc9)
                refine bodyPost_ret (v := .tuple #[tabV sl nd ⟨t.nx, o.num, A4, t.n + 1, c4, t.objs.take p ++ [obOf o] ++ t.objs.drop p⟩, .int .i64 0]) (RowSt.results_cell_tmp (p := 4) (q := 5) rfl _ _ (w.heap.size + 2) 95 _ (0, 0) _ rfl hb9 Try.underlying95 rfl (by kernel_rfl)) rfl ?_
                rw [HQ.out, HC.out]
                have HE9 : Ext w w9 := HE8.out.chg hc9 fun i hi => by have hi : i = w.heap.size + 2 := hi; omega
                have hwc2 : w.heap.size + 2 < wc.heap.size := Pack.lt_of_at (HX7.out.at_ HBZ6.out)
                have hrow : New wc.drew w9 200 6 A4 (t.n + 1) c4 (cellsL objS (t.objs.take p ++ [obOf o] ++ t.objs.drop p)) := by
                  have h1 := HO8.out.chg hc9 fun i (hi : wc.heap.size ≤ i) k => by have k : i = w.heap.size + 2 := k; omega
                  have e1 : cellsL objS [obOf o] = objC (obOf o) := List.append_nil _
                  rw [cellsL_app, cellsL_app, e1]
                  exact h1
                refine ⟨_, rfl, HE9, fun WK hW0 hWk => ?_, fun h => absurd rfl h, fun _ => ⟨HNM.out, HPL.out, rfl, rfl, by rw [show posFrom o.name t.objs = p from HPP.out]⟩⟩
                have hrowK := keepE hrow (by decide) HE7.out.size hWk
                refine ok_own (W := WK) hrowK (by decide) (by simp [HL.out]; omega) (fun x hx => ?_) (fun a v _ hc => hc) (own_max hrow)
                rcases List.mem_append.1 hx with hx | hx
                · rcases List.mem_append.1 hx with hx | hx
                  · obtain ⟨i, hi, hix⟩ := List.getElem_of_mem (List.mem_of_mem_take hx)
                    exact Sh.ok_le hW0 _ _ (sl_each H0.out (i := i) (by rw [List.getElem?_eq_getElem hi, hix]))
                  · have hx : x = obOf o := by simpa using hx
                    subst hx
                    exact Sh.ok_le hW0 _ _ (obOf_ok HO0.out)
                · obtain ⟨i, hi, hix⟩ := List.getElem_of_mem (List.mem_of_mem_drop hx)
                  exact Sh.ok_le hW0 _ _ (sl_each H0.out (i := i) (by rw [List.getElem?_eq_getElem hi, hix]))
end Go.Proofs.Ytipmkddcdnbihaa.Tbl
/- The document's tables: a slot's shard is let be elsewhere; walked. -/
namespace Go.Proofs.Ytipmkddcdnbihaa.Tbl
open Go.RowKit Base Step Vec Shape Erase
theorem cellsL_set5 {A : Option Addr} {n c : Nat} {l : List Row} : ∀ {objs : List Obj} {k : Nat} {ob : Obj}, objs[k]? = some ob → (cellsL objS objs).set (k * 6 + 5) (.slice A n c) = cellsL objS (objs.set k (mkObj ob A n c l))
  | [], k, ob, h => by simp at h
  | x :: objs, 0, ob, h => by
    have h : x = ob := by simpa using h
    subst h
    rfl
  | x :: objs, k + 1, ob, h => by
    have h : objs[k]? = some ob := by simpa using h
    rw [show (k + 1) * 6 + 5 = k * 6 + 5 + 6 by omega]
    show (objC x ++ cellsL objS objs).set (k * 6 + 5 + 6) (.slice A n c) = objC x ++ cellsL objS (objs.set k (mkObj ob A n c l))
    rw [← cellsL_set5 h]
    rfl
theorem rowsL_set {r' : Row} : ∀ {l : List Row} {j : Nat}, (cellsL rowS l).set j (.slice (rA r') (rN r') (rC r')) = cellsL rowS (l.set j r')
  | [], j => by simp [cellsL]
  | x :: l, 0 => rfl
  | x :: l, j + 1 => by
    show (.slice (rA x) (rN x) (rC x) :: cellsL rowS l).set (j + 1) (.slice (rA r') (rN r') (rC r')) = .slice (rA x) (rN x) (rC x) :: cellsL rowS (l.set j r')
    rw [List.set_cons_succ, rowsL_set]
/-- A variable that has been laid. -/
def ptrL (w0 : World) (T : TypeId) (cs : Array Value) : Lex.Loose := ⟨fun v => ∃ g, v = .pointer (some ⟨g, 0, none⟩), fun v W => ∀ g, v = .pointer (some ⟨g, 0, none⟩) → W.heap[g]? = some (.cells cs T (0, 0)) ∧ w0.heap.size ≤ g⟩
theorem ptrL_st {w0 : World} {T : TypeId} {cs : Array Value} : (ptrL w0 T cs).St Ext := fun _ _ _ h he g e => ⟨he.at_ (h g e).1, (h g e).2⟩
theorem infoRPlace : (Try.prog.info? 87).map (fun i => (i.zero, i.size, i.bytes)) = some (some (.agg #[.int .i64 0, .int .u32 0]), 2, 16) := by kernel_rfl
theorem infoRRow : (Try.prog.info? 185).map (fun i => (i.zero, i.size, i.bytes)) = some (some (.slice none 0 0), 1, 24) := by kernel_rfl
set_option maxRecDepth 100000 in
set_option maxHeartbeats 8000000 in
theorem rMove_calls (sl nd : Nat) (t : Tb) (o : Op) (w0 w : World) (hw0 : Sub w0 w) (h0 : Doc w0 t) (hn : t.n ≤ 1099511627776) (hs : ∀ ob ∈ t.objs, Small ob) (hr : ∀ ob ∈ t.objs, ∀ r ∈ rows ob, rN r = sl) (ho0 : OpAt w0 o) :
    Calls Try.prog 98 #[tabV sl nd t, opV o] w (RDid w0 w sl nd (moveC sl nd t o) fun t' => MoveR sl nd t o (moveC sl nd t o) t') := by
  obtain ⟨nx, ls, A, n, c, objs⟩ := t
  obtain ⟨Q, hQ⟩ : ∃ Q, Q = RDid w0 w sl nd (moveC sl nd ⟨nx, ls, A, n, c, objs⟩ o) fun t' => MoveR sl nd ⟨nx, ls, A, n, c, objs⟩ o (moveC sl nd ⟨nx, ls, A, n, c, objs⟩ o) t' := ⟨_, rfl⟩
  have HQ := Lib.hid hQ
  rw [← hQ]
  clear hQ
  have hn : n ≤ 1099511627776 := hn
  have h0 : (Sh.sl objS).ok w0 (A, n, c, objs) := h0
  have h := Sh.ok_le hw0 _ _ h0
  have ho := ho0.sub hw0
  have H0 := Lib.hid h0
  have H := Lib.hid h
  have HO := Lib.hid ho
  have HS : Hid (∀ ob ∈ objs, Small ob) := Lib.hid hs
  have HR : Hid (∀ ob ∈ objs, ∀ r ∈ rows ob, rN r = sl) := Lib.hid hr
  have e0 := Lib.hid (((Ext.new w (.cells #[.int .i64 sl, .int .i64 nd, .int .u32 nx, .int .u32 ls, .slice A n c] 95)).alloc (.cells (opC o) 89)).alloc (.cells tab0 95))
  have hbt := ((Ext.new (w.alloc (.cells #[.int .i64 sl, .int .i64 nd, .int .u32 nx, .int .u32 ls, .slice A n c] 95)) (.cells (opC o) 89)).alloc (.cells tab0 95)).at_ (at_new w (.cells #[.int .i64 sl, .int .i64 nd, .int .u32 nx, .int .u32 ls, .slice A n c] 95))
  have hbo := (Ext.new ((w.alloc (.cells #[.int .i64 sl, .int .i64 nd, .int .u32 nx, .int .u32 ls, .slice A n c] 95)).alloc (.cells (opC o) 89)) (.cells tab0 95)).at_ (at_new (w.alloc (.cells #[.int .i64 sl, .int .i64 nd, .int .u32 nx, .int .u32 ls, .slice A n c] 95)) (.cells (opC o) 89))
  have hbz := at_new ((w.alloc (.cells #[.int .i64 sl, .int .i64 nd, .int .u32 nx, .int .u32 ls, .slice A n c] 95)).alloc (.cells (opC o) 89)) (.cells tab0 95)
  have hsz : (w.alloc (.cells #[.int .i64 sl, .int .i64 nd, .int .u32 nx, .int .u32 ls, .slice A n c] 95)).heap.size = w.heap.size + 1 := by simp
  have hsz2 : ((w.alloc (.cells #[.int .i64 sl, .int .i64 nd, .int .u32 nx, .int .u32 ls, .slice A n c] 95)).alloc (.cells (opC o) 89)).heap.size = w.heap.size + 2 := by simp
  rw [hsz] at hbo
  rw [hsz2] at hbz
  clear h ho h0 ho0 hs hr hsz hsz2
  have hno : ∀ (code : Int) (W : World), code ≠ 0 → moveC sl nd ⟨nx, ls, A, n, c, objs⟩ o = code → Ext w W → Q (.returned (.tuple #[tabV sl nd ⟨nx, ls, A, n, c, objs⟩, .int .i64 code])) W := fun code W h0 hc he => by
    rw [HQ.out, hc]
    exact ⟨_, rfl, he, fun W hW _ => Sh.ok_le hW _ _ H0.out, fun _ => rfl, fun k => absurd k h0⟩
  have HNO := Lib.hid hno
  clear hno
  go_enter Try.func98, Try.ntmps98
  go_upto_region 1 with fail
  generalize ((w.alloc (.cells #[.int .i64 sl, .int .i64 nd, .int .u32 nx, .int .u32 ls, .slice A n c] 95)).alloc (.cells (opC o) 89)).alloc (.cells tab0 95) = w1 at *
  have HBT := Lib.hid hbt
  have HBO := Lib.hid hbo
  have HBZ := Lib.hid hbz
  have b1 : w1.cell? ⟨w.heap.size + 1, 1, none⟩ = some (.int .u32 o.num) := blk_cell (i := 1) hbo (Ext.refl _) rfl
  have t0 := blk_cell (i := 0) hbt (Ext.refl _) rfl; have tf0 := Pack.free_of hbt 0; have t1 := blk_cell (i := 1) hbt (Ext.refl _) rfl; have tf1 := Pack.free_of hbt 1; have t2 := blk_cell (i := 2) hbt (Ext.refl _) rfl; have tf2 := Pack.free_of hbt 2; have t3 := blk_cell (i := 3) hbt (Ext.refl _) rfl; have tf3 := Pack.free_of hbt 3; have t4 := blk_cell (i := 4) hbt (Ext.refl _) rfl; have tf4 := Pack.free_of hbt 4
  clear hbt hbo hbz
  go_wp2_with fail
  refine (rNumbered_calls sl nd ⟨nx, ls, A, n, c, objs⟩ o.num w1 (Sh.ok_ext e0.out _ _ H.out) hn).mono ?_
  rintro e w2 ⟨rfl, he2⟩
  have HE2 := Lib.hid he2
  have hb2 := he2.at_ HBO.out
  have ht2 := he2.at_ HBT.out
  have hz2 := he2.at_ HBZ.out
  clear he2 b1 t0 t1 t2 t3 t4 tf0 tf1 tf2 tf3 tf4
  have b7 : w2.cell? ⟨w.heap.size + 1, 7, none⟩ = some (.int .i64 o.stripe) := blk_cell (i := 7) hb2 (Ext.refl _) rfl
  have b8 : w2.cell? ⟨w.heap.size + 1, 8, none⟩ = some (.int .i64 o.slot) := blk_cell (i := 8) hb2 (Ext.refl _) rfl
  have t0 : w2.cell? ⟨w.heap.size, 0, none⟩ = some (.int .i64 sl) := blk_cell (i := 0) ht2 (Ext.refl _) rfl
  have t4 : w2.cell? ⟨w.heap.size, 4, none⟩ = some (.slice A n c) := blk_cell (i := 4) ht2 (Ext.refl _) rfl
  have HB2 := Lib.hid hb2
  have HT2 := Lib.hid ht2
  have HZ2 := Lib.hid hz2
  clear hb2 ht2 hz2
  -- a way out at 6
  have hout : ∀ (nq : Nat), ∃ wq, wq = w2.drewN nq := fun nq => ⟨_, rfl⟩
  clear hout
  go_upto_region 2 with fail
  rcases numFrom_spec o.num objs 0 with ⟨hk0, _⟩ | ⟨k, ob, hk0, hob, hobn⟩
  · have hk0 : numAt objs o.num = -1 := hk0
    have HC : Hid (moveC sl nd ⟨nx, ls, A, n, c, objs⟩ o = 6) := Lib.hid (by
      unfold moveC
      rw [if_pos]
      exact .inl (by show numAt objs o.num < 0; omega))
    rw [hk0]
    have hd1 : decide ((-1 : Int) < 0) = true := rfl
    clear hk0
    go_quiet (fail)
    have HEN := Lib.hid ((e0.out.trans HE2.out).drewN nq)
    have hzn := (Ext.drewN (Ext.refl w2) nq).at_ HZ2.out
    have htn := (Ext.drewN (Ext.refl w2) nq).at_ HT2.out
    clear b7 b8 t0 t4
    generalize w2.drewN nq = wn at *
    have t0 := blk_cell (i := 0) htn (Ext.refl _) rfl; have tf0 := Pack.free_of htn 0; have t1 := blk_cell (i := 1) htn (Ext.refl _) rfl; have tf1 := Pack.free_of htn 1; have t2 := blk_cell (i := 2) htn (Ext.refl _) rfl; have tf2 := Pack.free_of htn 2; have t3 := blk_cell (i := 3) htn (Ext.refl _) rfl; have tf3 := Pack.free_of htn 3; have t4 := blk_cell (i := 4) htn (Ext.refl _) rfl; have tf4 := Pack.free_of htn 4
    go_wp2_with (refine RowSt.wpList_put 95 _ _ rfl rfl rfl (w.heap.size + 2) (tabC sl nd ⟨nx, ls, _, n, c, objs⟩) rfl rfl 95 _ hzn (by kernel_rfl) rfl (by simp [Value.oneCell']) ?_; intro w8 hb8 hc8)
    refine bodyPost_ret (v := .tuple #[tabV sl nd ⟨nx, ls, _, n, c, objs⟩, .int .i64 6]) (RowSt.results_cell_tmp (p := 4) (q := 5) rfl _ _ (w.heap.size + 2) 95 _ (0, 0) _ rfl hb8 Try.underlying95 rfl (by kernel_rfl)) rfl ?_
    exact HNO.out _ _ (by decide) HC.out (HEN.out.chg hc8 fun i hi => by have hi : i = w.heap.size + 2 := hi; omega)
  · have hk0 : numAt objs o.num = (k : Nat) := by rw [← Nat.zero_add k]; exact hk0
    have hln := (sl_len H.out).1
    have hkn : k < n := by have := (List.getElem?_eq_some_iff.1 hob).1; omega
    obtain ⟨ad, ob', hA, hob', hat, hobk⟩ := obj_at H.out hkn
    subst hA
    rw [hob] at hob'
    cases hob'
    have hnc : n ≤ c := (sl_len H.out).2.1
    have hat2 := hat.ext (e0.out.trans HE2.out)
    have HAT := Lib.hid hat2
    obtain ⟨c0, c1, c2, c3, c4, c5⟩ := hat2
    have HK := Lib.hid hk0
    have HOB := Lib.hid hob
    have HOBK := Lib.hid hobk
    have hidx : objs[(numAt objs o.num).toNat]? = some ob := by rw [hk0]; exact hob
    have HIDX := Lib.hid hidx
    rw [hk0]
    clear hat hob hobk hobn hidx hk0 c0 c1 c2 c3 c4
    have hpm : pN ob ≤ 1099511627776 := (HS.out ob (List.mem_of_getElem? HOB.out)).1
    have hd1 : decide (((k : Nat) : Int) < 0) = false := by simp
    by_cases hbad : o.stripe < 0 ∨ (pN ob : Int) ≤ o.stripe ∨ o.slot < 0 ∨ (sl : Int) ≤ o.slot
    · have HC : Hid (moveC sl nd ⟨nx, ls, some ad, n, c, objs⟩ o = 6) := Lib.hid (by
        unfold moveC
        rw [if_pos]
        rcases hbad with h | h | h | h
        · exact .inr (.inl h)
        · refine .inr (.inr (.inl fun ob2 h2 => ?_))
          have h2 : objs[(numAt objs o.num).toNat]? = some ob2 := h2
          rw [HIDX.out] at h2
          cases h2
          exact h
        · exact .inr (.inr (.inr (.inl h)))
        · exact .inr (.inr (.inr (.inr h))))
      have hor : (decide (o.stripe < 0) = true) ∨ (decide (o.stripe < 0) = false ∧ decide ((pN ob : Int) ≤ o.stripe) = true) ∨ (decide (o.stripe < 0) = false ∧ decide ((pN ob : Int) ≤ o.stripe) = false ∧ decide (o.slot < 0) = true) ∨ (decide (o.stripe < 0) = false ∧ decide ((pN ob : Int) ≤ o.stripe) = false ∧ decide (o.slot < 0) = false ∧ decide ((sl : Int) ≤ o.slot) = true) := by
        simp only [decide_eq_true_eq, decide_eq_false_iff_not]
        omega
      clear hbad
      rcases hor with hd2 | ⟨hd2, hd3⟩ | ⟨hd2, hd3, hd4⟩ | ⟨hd2, hd3, hd4, hd5⟩
      all_goals
        go_quiet (fail)
        have HEN := Lib.hid ((e0.out.trans HE2.out).drewN nq)
        have hzn := (Ext.drewN (Ext.refl w2) nq).at_ HZ2.out
        have htn := (Ext.drewN (Ext.refl w2) nq).at_ HT2.out
        clear b7 b8 t0 t4 c5
        generalize w2.drewN nq = wn at *
        have t0 := blk_cell (i := 0) htn (Ext.refl _) rfl; have tf0 := Pack.free_of htn 0; have t1 := blk_cell (i := 1) htn (Ext.refl _) rfl; have tf1 := Pack.free_of htn 1; have t2 := blk_cell (i := 2) htn (Ext.refl _) rfl; have tf2 := Pack.free_of htn 2; have t3 := blk_cell (i := 3) htn (Ext.refl _) rfl; have tf3 := Pack.free_of htn 3; have t4 := blk_cell (i := 4) htn (Ext.refl _) rfl; have tf4 := Pack.free_of htn 4
        go_wp2_with (refine RowSt.wpList_put 95 _ _ rfl rfl rfl (w.heap.size + 2) (tabC sl nd ⟨nx, ls, _, n, c, objs⟩) rfl rfl 95 _ hzn (by kernel_rfl) rfl (by simp [Value.oneCell']) ?_; intro w8 hb8 hc8)
        refine bodyPost_ret (v := .tuple #[tabV sl nd ⟨nx, ls, _, n, c, objs⟩, .int .i64 6]) (RowSt.results_cell_tmp (p := 4) (q := 5) rfl _ _ (w.heap.size + 2) 95 _ (0, 0) _ rfl hb8 Try.underlying95 rfl (by kernel_rfl)) rfl ?_
        exact HNO.out _ _ (by decide) HC.out (HEN.out.chg hc8 fun i hi => by have hi : i = w.heap.size + 2 := hi; omega)
    · have hd2 : decide (o.stripe < 0) = false := by simp; omega
      have hd3 : decide ((pN ob : Int) ≤ o.stripe) = false := by simp; omega
      have hd4 : decide (o.slot < 0) = false := by simp; omega
      have hd5 : decide ((sl : Int) ≤ o.slot) = false := by simp; omega
      have HGOOD := Lib.hid hbad
      clear hbad
      go_quiet (fail)
      have hx3 := Ext.drewN (Ext.refl w2) nq
      have HE3 := Lib.hid ((e0.out.trans HE2.out).drewN nq)
      have HB3 := Lib.hid (hx3.at_ HB2.out)
      have HT3 := Lib.hid (hx3.at_ HT2.out)
      have HZ3 := Lib.hid (hx3.at_ HZ2.out)
      have HAT3 := Lib.hid (HAT.out.ext hx3)
      clear hd1 hd2 hd3 hd4 hd5 b7 b8 t0 t4 c5 HAT HB2 HT2 HZ2 hx3
      generalize w2.drewN nq = w3 at *
      obtain ⟨j, hj⟩ : ∃ j : Nat, o.stripe = j := ⟨o.stripe.toNat, by have := HGOOD.out; omega⟩
      obtain ⟨q, hq⟩ : ∃ q : Nat, o.slot = q := ⟨o.slot.toNat, by have := HGOOD.out; omega⟩
      have hjp : j < pN ob := by have := HGOOD.out; omega
      have hqs : q < sl := by have := HGOOD.out; omega
      have HJ := Lib.hid hj
      have HQQ := Lib.hid hq
      clear hj hq
      -- the row, and its place
      have hrl := (obj_ok HOBK.out).2.2.2
      have hrl2 : (rows ob).length = pN ob := (sl_len hrl).1
      obtain ⟨adp, r, hpA, hr0, hcell, hrok⟩ := row_at hrl hjp
      have hrsl : rN r = sl := HR.out ob (List.mem_of_getElem? HOB.out) r (List.mem_of_getElem? hr0)
      obtain ⟨a2, p, hrA, hp, hp0, hp1, _, _⟩ := place_at hrok (i := q) (by omega)
      have hb3 := HB3.out
      unfold opC at hb3
      rw [HJ.out, HQQ.out] at hb3
      have HB3' := Lib.hid hb3
      clear hb3
      have HCELL := Lib.hid hcell
      have HP0 := Lib.hid hp0
      have HP1 := Lib.hid hp1
      have HROK := Lib.hid hrok
      have HR0 := Lib.hid hr0
      have HP := Lib.hid hp
      have HPA := Lib.hid hpA
      have HRA := Lib.hid hrA
      have HRSL := Lib.hid hrsl
      have HRL := Lib.hid hrl
      have HRL2 := Lib.hid hrl2
      have hc5 := HAT3.out.c5
      rw [hpA] at hc5
      have HC5 := Lib.hid hc5
      clear hcell hp0 hp1 hrok hr0 hp hpA hrl hrl2 hc5
      rw [hrA, hrsl] at HCELL
      clear hrA hrsl
      have hki : ((k : Nat) : Int) < ((n : Nat) : Int) := by omega
      have hji : ((j : Nat) : Int) < ((pN ob : Nat) : Int) := by omega
      have hqi : ((q : Nat) : Int) < ((sl : Nat) : Int) := by omega
      go_upto_region 4 with fail
      have y4 : ∀ W, Ext w3.drew W → W.cell? ⟨w.heap.size, 4, none⟩ = some (.slice (some ad) n c) := fun W hW => blk_cell (i := 4) HT3.out (drew_ext hW) rfl
      have y5 : ∀ W, Ext w3.drew W → W.cell? ⟨(ad.add (k * 6)).block, (ad.add (k * 6)).off + 5, none⟩ = some (.slice (some adp) (pN ob) (pC ob)) := fun W hW => (drew_ext hW).cell_ HC5.out
      have y6 : ∀ W, Ext w3.drew W → W.cell? (adp.add j) = some (.slice (some a2) sl (rC r)) := fun W hW => (HE3.out.trans (drew_ext hW)).cell_ HCELL.out
      have z7 : ∀ W, Ext w3.drew W → W.cell? ⟨w.heap.size + 1, 7, none⟩ = some (.int .i64 (j : Nat)) := fun W hW => blk_cell (i := 7) HB3'.out (drew_ext hW) rfl
      have z8 : ∀ W, Ext w3.drew W → W.cell? ⟨w.heap.size + 1, 8, none⟩ = some (.int .i64 (q : Nat)) := fun W hW => blk_cell (i := 8) HB3'.out (drew_ext hW) rfl
      have z9 : ∀ W, Ext w3.drew W → W.cell? (a2.add (q * 2)) = some (.int .i64 (node p)) := fun W hW => (HE3.out.trans (drew_ext hW)).cell_ HP0.out
      have z10 : ∀ W, Ext w3.drew W → W.cell? ⟨(a2.add (q * 2)).block, (a2.add (q * 2)).off + 1, none⟩ = some (.int .u32 (gen p)) := fun W hW => (HE3.out.trans (drew_ext hW)).cell_ HP1.out
      refine Lex.wp_region_u [0, 1, 2, 3, 4, 5, 6, 7, 8, 9, 10, 11, 12, 13, 14] [15] [] (by kernel_rfl) (by kernel_rfl) (by repeat (first | exact Lex.st_nil | refine Lex.st_cons (by first | exact Lex.nums_st | exact Lex.const_st | exact Lex.such_st | exact Lex.row_st | exact Lex.rowE_st | exact Lex.litR_st | assumption) ?_)) ?_; simp only [Lex.pick, List.getElem?_cons_succ, List.getElem?_cons_zero, List.map_cons, List.map_nil]
      repeat (first | (refine Lex.lexU_skip (by rfl) ?_; simp only [Act.put, List.setIfInBounds_toArray, List.set_cons_zero, List.set_cons_succ]) | (refine Lex.lexU_still (by rfl) (by rfl) (by first | exact Base.Ext.refl | exact Lex.Fill.refl) ?_; apply Exists.intro; refine ⟨fun W hW => ?_, ?_⟩; (have hE := Lex.ext_of_cls hW.1; have hE2 := Lex.ext_drew hE; clear hW; go_simp; try with_reducible rfl); simp only [Act.put, List.setIfInBounds_toArray, List.set_cons_zero, List.set_cons_succ]))
      refine Lex.lexU_such (by rfl) (by rfl) (ptrL w3.drew 87 #[.int .i64 0, .int .u32 0]) (ptrL_st) (fun W hW => ?_) ?_
      · have hE := hW.1
        clear hW
        go_simp
        exact ⟨⟨_, rfl⟩, Ext.new _ _, fun g e => by cases e; exact ⟨at_new _ _, hE.size⟩⟩
      rintro v ⟨wp, rfl⟩
      simp only [Act.put, List.setIfInBounds_toArray, List.set_cons_zero, List.set_cons_succ]
      repeat (first | (refine Lex.lexU_skip (by rfl) ?_; simp only [Act.put, List.setIfInBounds_toArray, List.set_cons_zero, List.set_cons_succ]) | (refine Lex.lexU_still (by rfl) (by rfl) (by first | exact Base.Ext.refl | exact Lex.Fill.refl) ?_; apply Exists.intro; refine ⟨fun W hW => ?_, ?_⟩; (have hE := Lex.ext_of_cls hW.1; have hE2 := Lex.ext_drew hE; clear hW; go_simp; try with_reducible rfl); simp only [Act.put, List.setIfInBounds_toArray, List.set_cons_zero, List.set_cons_succ]))
      refine Lex.lexU_nil (fun W hW => ?_)
      have hEW := Lex.ext_drew hW.1
      obtain ⟨hwp, hwp2⟩ := (hW.2 14).2 rfl _ rfl
      have hwp2 : w3.heap.size ≤ wp := hwp2
      clear hW y4 y5 y6 z7 z8 z9 z10
      have HEW := Lib.hid hEW
      clear hEW
      go_wp2_with (refine RowSt.wpList_put 87 _ _ rfl rfl rfl wp #[.int .i64 (node p), .int .u32 (gen p)] rfl rfl 87 _ hwp (by kernel_rfl) rfl (by simp [Value.oneCell']) ?_; intro w4 hb4 hc4)
      try simp only [Lex.onlyN]
      have hlt3 : w.heap.size + 2 < w3.heap.size := Pack.lt_of_at HZ3.out
      have hC34 : Chg (fun i => i = wp) w3 w4 := ext_chg HEW.out hc4
      have HE4 := Lib.hid (HE3.out.chg hC34 fun i hi => by have hi : i = wp := hi; omega)
      have HE34 := Lib.hid ((Ext.refl w3).chg hC34 fun i hi => by have hi : i = wp := hi; omega)
      have HW4 := Lib.hid hb4
      have HT4 := Lib.hid (HE34.out.at_ HT3.out)
      have HB4 := Lib.hid (HE34.out.at_ HB3'.out)
      have HZ4 := Lib.hid (HE34.out.at_ HZ3.out)
      have HC4 := Lib.hid (HE34.out.cell_ HC5.out)
      have hwplt : wp < w4.heap.size := Pack.lt_of_at hb4
      clear hb4 hc4 hC34 hwp
      go_upto_region 5 with fail
      have y4 : ∀ W, Ext w4.drew W → W.cell? ⟨w.heap.size, 4, none⟩ = some (.slice (some ad) n c) := fun W hW => blk_cell (i := 4) HT4.out (drew_ext hW) rfl
      have y5 : ∀ W, Ext w4.drew W → W.cell? ⟨(ad.add (k * 6)).block, (ad.add (k * 6)).off + 5, none⟩ = some (.slice (some adp) (pN ob) (pC ob)) := fun W hW => (drew_ext hW).cell_ HC4.out
      have y6 : ∀ W, Ext w4.drew W → W.cell? (adp.add j) = some (.slice (some a2) sl (rC r)) := fun W hW => (HE4.out.trans (drew_ext hW)).cell_ HCELL.out
      have z7 : ∀ W, Ext w4.drew W → W.cell? ⟨w.heap.size + 1, 7, none⟩ = some (.int .i64 (j : Nat)) := fun W hW => blk_cell (i := 7) HB4.out (drew_ext hW) rfl
      have hsl40 : sl ≤ 8796093021952 := by
        have := (HS.out ob (List.mem_of_getElem? HOB.out)).2 r (List.mem_of_getElem? HR0.out)
        rw [HRSL.out] at this
        exact this
      have HPL : Hid ((cellsL plS (rP r)).length = sl * 2) := Lib.hid (by rw [cellsL_length, (sl_len HROK.out).1, HRSL.out]; rfl)
      have HRPL : Hid ((rP r).length = sl) := Lib.hid (by rw [(sl_len HROK.out).1, HRSL.out])
      have HD4 := Lib.hid (HE4.out.trans (Ext.drew (Ext.refl _)))
      refine Lex.wp_region_r [0, 1, 2, 3, 4, 5, 6, 7, 8, 9, 10, 11, 12] [] [(11, 0)] [(0, Lex.rowR w4.drew 87 2 0 []), (11, Lex.rowR w4.drew 87 2 sl (cellsL plS (rP r)))] (by kernel_rfl) (by kernel_rfl) (by kernel_rfl) (by repeat (first | exact Lex.ok_nilR | refine Lex.ok_consR (by first | exact Lex.rowR_ok | exact Tbl.rdR_ok | assumption) ?_)) ?_; simp only [Lex.pick, List.getElem?_cons_succ, List.getElem?_cons_zero, List.map_cons, List.map_nil]
      refine Lex.lexR_loose (by rfl) (by rfl) (fun W hW hAP => ?_) ?_
      · have hE := hW.1
        clear hW
        go_simp
        exact Lex.rowR_new hE.size (Ext.new _ _) (own_empty (at_new _ _) (Nat.le_refl _))
      rintro v fx ⟨A0, c0, rfl⟩
      simp only [Act.put, List.setIfInBounds_toArray, List.set_cons_zero, List.set_cons_succ]
      repeat (first | (refine Lex.lexR_skip (by rfl) ?_; simp only [Act.put, List.setIfInBounds_toArray, List.set_cons_zero, List.set_cons_succ]) | (refine Lex.lexR_still (by rfl) (by rfl) ?_; apply Exists.intro; refine ⟨fun W hW => ?_, ?_⟩; (have hE := hW; have hE2 := Lex.ext_drew hE; clear hW; go_simp; try with_reducible rfl); simp only [Act.put, List.setIfInBounds_toArray, List.set_cons_zero, List.set_cons_succ]))
      refine Lex.lexR_loose (by rfl) (by rfl) (fun W hW hAP => ?_) ?_
      · obtain ⟨hown, hfo⟩ := ((hW.2 0 (by kernel_rfl) rfl).2 rfl) _ _ rfl
        have hE := hW.1
        clear hW
        refine Lex.app_looseR (.tmp 59) (.tmp 69) _ rfl 87 _ 2 16 Try.underlying185 infoRPlace rfl (by decide) (by decide) rfl hown (fun i hi => ⟨0, by simp, .inr ⟨rfl, hfo i hi⟩⟩) rfl HPL.out (fun h => by cases h) (fun ad' ha j' u hu => (HD4.out.trans hE).cell_ (ok_cells HROK.out (by decide) ad' (by rw [HRA.out]; exact ha) j' u hu)) (cellsL_one_ _ _) (by omega) hE.size (Nat.zero_add _) rfl
      rintro v fx ⟨A8, c8, rfl⟩
      simp only [Act.put, List.setIfInBounds_toArray, List.set_cons_zero, List.set_cons_succ]
      repeat (first | (refine Lex.lexR_skip (by rfl) ?_; simp only [Act.put, List.setIfInBounds_toArray, List.set_cons_zero, List.set_cons_succ]) | (refine Lex.lexR_still (by rfl) (by rfl) ?_; apply Exists.intro; refine ⟨fun W hW => ?_, ?_⟩; (have hE := hW; have hE2 := Lex.ext_drew hE; clear hW; go_simp; try with_reducible rfl); simp only [Act.put, List.setIfInBounds_toArray, List.set_cons_zero, List.set_cons_succ]))
      refine Lex.lexR_nil (fun W hW hF => ?_)
      have HOWN := Lib.hid (((hF 11 rfl).2 rfl) _ _ rfl).1
      have HEW2 := Lib.hid (Lex.ext_drew hW)
      clear hW hF y4 y5 y6 z7
      refine Lex.onlyN_intro ?_
      rcases A8 with _ | a8
      · have := (Splice.own_none HOWN.out).1
        omega
      obtain ⟨g8, cur8, rfl, hg8, hnc8, hcm8, hcs8, hcx8, hS8, hl8⟩ := Splice.blk_own HOWN.out
      have hS8 : w4.heap.size ≤ g8 := hS8
      have HG8 := Lib.hid hg8
      have hbw := HEW2.out.at_ HB4.out
      have b8 : W.cell? ⟨w.heap.size + 1, 8, none⟩ = some (.int .i64 (q : Nat)) := blk_cell (i := 8) hbw (Ext.refl _) rfl
      have b9 : W.cell? ⟨w.heap.size + 1, 9, none⟩ = some (.int .i64 o.node) := blk_cell (i := 9) hbw (Ext.refl _) rfl
      have b10 : W.cell? ⟨w.heap.size + 1, 10, none⟩ = some (.int .u32 o.gen) := blk_cell (i := 10) hbw (Ext.refl _) rfl
      have hmul : q * 2 + 2 ≤ c8 * 2 := by omega
      clear hg8 hcx8 hl8 hbw
      go_upto_region 7 with (refine Splice.wpList_storeB 87 _ _ rfl rfl rfl g8 (q * 2) #[.int .i64 o.node, .int .u32 o.gen] rfl rfl 87 cur8 HG8.out (by kernel_rfl) (by rw [hcs8]; exact hmul) (by simp [Value.oneCell']) ?_; intro w5 hg5 hc5)
      have hE45 : Ext w4 w5 := HEW2.out.chg hc5 fun i hi => by rw [hi]; exact hS8
      have hput : Splice.putAt (cellsL plS (rP r)) (q * 2) [.int .i64 o.node, .int .u32 o.gen] = cellsL plS ((rP r).set q (pl o.node o.gen)) := cellsL_put (e := plS) (x := pl o.node o.gen) (by rw [HRPL.out]; omega)
      have hown5 : New w4 w5 87 2 (some ⟨g8, 0, none⟩) sl c8 (cellsL plS ((rP r).set q (pl o.node o.gen))) := by
        have := Splice.own_store (o := q * 2) HOWN.out HG8.out (by show q * 2 + 2 ≤ sl * 2; omega) hg5
        rwa [hput] at this
      have heach : ∀ x ∈ (rP r).set q (pl o.node o.gen), ∀ W, plS.ok W x := fun x hx W => by
        rcases List.mem_or_eq_of_mem_set hx with hx | hx
        · obtain ⟨i, hi, hix⟩ := List.getElem_of_mem hx
          exact pl_any (sl_each HROK.out (i := i) (x := x) (by rw [List.getElem?_eq_getElem hi, hix]))
        · rw [hx]
          exact ⟨HO.out.node, HO.out.gen, trivial⟩
      have HEACH := Lib.hid heach
      have hlen5 : ((rP r).set q (pl o.node o.gen)).length = sl := by rw [List.length_set]; exact HRPL.out
      have HOW5 := Lib.hid hown5
      have HLEN5 := Lib.hid hlen5
      have HE5 := Lib.hid (HE4.out.trans hE45)
      have ht5 := hE45.at_ HT4.out
      have HT5 := Lib.hid ht5
      have HB5 := Lib.hid (hE45.at_ HB4.out)
      have HZ5 := Lib.hid (hE45.at_ HZ4.out)
      have HW5 := Lib.hid (hE45.at_ HW4.out)
      have HC5' := Lib.hid (hE45.cell_ HC4.out)
      have hw45 : w4.heap.size ≤ w5.heap.size := hE45.size
      have hrowok : (Sh.sl plS).ok w5 (some ⟨g8, 0, none⟩, sl, c8, (rP r).set q (pl o.node o.gen)) :=
        ok_own (W := w5) (e := plS) hown5 (by decide) hlen5 (fun x hx => heach x hx _) (fun a v _ hc => hc) (own_max hown5)
      have HROWOK := Lib.hid hrowok
      clear b8 b9 b10 hg5 hc5 hput hown5 heach hlen5 hE45 hrowok
      -- what it is called
      have hjt : o.stripe.toNat = j := by rw [HJ.out]; rfl
      have hqt : o.slot.toNat = q := by rw [HQQ.out]; rfl
      have hrow : rowOf ⟨nx, ls, some ad, n, c, objs⟩ o = rP r := by
        unfold rowOf
        dsimp only
        rw [HIDX.out]
        dsimp only
        rw [hjt, HR0.out]
      have hto : toRow ⟨nx, ls, some ad, n, c, objs⟩ o = (rP r).set q (pl o.node o.gen) := by unfold toRow; rw [hrow, hqt]
      have hnbad : ¬ badMove sl ⟨nx, ls, some ad, n, c, objs⟩ o := by
        intro hb
        have hg := HGOOD.out
        rcases hb with h | h | h | h | h
        · have h : numAt objs o.num < 0 := h
          rw [HK.out] at h
          omega
        · exact hg (.inl h)
        · exact hg (.inr (.inl (h ob HIDX.out)))
        · exact hg (.inr (.inr (.inl h)))
        · exact hg (.inr (.inr (.inr h)))
      have HROW := Lib.hid hrow
      have HTO := Lib.hid hto
      have HNB := Lib.hid hnbad
      have HQT := Lib.hid hqt
      have HJT := Lib.hid hjt
      clear hrow hto hnbad hqt hjt
      have t0 := blk_cell (i := 0) ht5 (Ext.refl _) rfl; have tf0 := Pack.free_of ht5 0; have t1 := blk_cell (i := 1) ht5 (Ext.refl _) rfl; have tf1 := Pack.free_of ht5 1; have t2 := blk_cell (i := 2) ht5 (Ext.refl _) rfl; have tf2 := Pack.free_of ht5 2; have t3 := blk_cell (i := 3) ht5 (Ext.refl _) rfl; have tf3 := Pack.free_of ht5 3; have t4 := blk_cell (i := 4) ht5 (Ext.refl _) rfl; have tf4 := Pack.free_of ht5 4
      go_wp2_with fail
      refine (rRight_calls sl nd ⟨nx, ls, some ad, n, c, objs⟩ (some ⟨g8, 0, none⟩) sl c8 ((rP r).set q (pl o.node o.gen)) w5 HROWOK.out hsl40).mono ?_
      rintro e w6 ⟨he6, b, rfl, hb6⟩
      have HE56 := Lib.hid he6
      have HE6 := Lib.hid (HE5.out.trans he6)
      have ht6 := he6.at_ HT5.out
      have hz6 := he6.at_ HZ5.out
      have HT6 := Lib.hid ht6
      have HB6 := Lib.hid (he6.at_ HB5.out)
      have HZ6 := Lib.hid hz6
      clear he6 t0 t1 t2 t3 t4 tf0 tf1 tf2 tf3 tf4 ht5
      have t0 := blk_cell (i := 0) ht6 (Ext.refl _) rfl; have tf0 := Pack.free_of ht6 0; have t1 := blk_cell (i := 1) ht6 (Ext.refl _) rfl; have tf1 := Pack.free_of ht6 1; have t2 := blk_cell (i := 2) ht6 (Ext.refl _) rfl; have tf2 := Pack.free_of ht6 2; have t3 := blk_cell (i := 3) ht6 (Ext.refl _) rfl; have tf3 := Pack.free_of ht6 3; have t4 := blk_cell (i := 4) ht6 (Ext.refl _) rfl; have tf4 := Pack.free_of ht6 4
      cases b with
      | false =>
        have HC : Hid (moveC sl nd ⟨nx, ls, some ad, n, c, objs⟩ o = 1) := Lib.hid (by
          unfold moveC
          rw [if_neg HNB.out, if_pos]
          rw [HTO.out]
          exact fun hh => by have := hb6.2 hh; cases this)
        clear hb6
        go_wp2_with (refine RowSt.wpList_put 95 _ _ rfl rfl rfl (w.heap.size + 2) (tabC sl nd ⟨nx, ls, _, n, c, objs⟩) rfl rfl 95 _ hz6 (by kernel_rfl) rfl (by simp [Value.oneCell']) ?_; intro w9 hb9 hc9)
        refine bodyPost_ret (v := .tuple #[tabV sl nd ⟨nx, ls, _, n, c, objs⟩, .int .i64 1]) (RowSt.results_cell_tmp (p := 4) (q := 5) rfl _ _ (w.heap.size + 2) 95 _ (0, 0) _ rfl hb9 Try.underlying95 rfl (by kernel_rfl)) rfl ?_
        exact HNO.out _ _ (by decide) HC.out (HE6.out.chg hc9 fun i hi => by have hi : i = w.heap.size + 2 := hi; omega)
      | true =>
        have HRIGHT := Lib.hid (hb6.1 rfl)
        have o10 : w6.cell? ⟨w.heap.size + 1, 10, none⟩ = some (.int .u32 o.gen) := blk_cell (i := 10) HB6.out (Ext.refl _) rfl
        have p1 : w6.cell? ⟨wp, 1, none⟩ = some (.int .u32 (gen p)) := blk_cell (i := 1) (HE56.out.at_ HW5.out) (Ext.refl _) rfl
        clear hb6
        by_cases hgen : o.gen ≤ gen p
        · have HC : Hid (moveC sl nd ⟨nx, ls, some ad, n, c, objs⟩ o = 28) := Lib.hid (by
            unfold moveC
            rw [if_neg HNB.out, if_neg (by rw [HTO.out]; exact fun k => k HRIGHT.out), if_pos]
            rw [HROW.out, HQT.out]
            exact ⟨p, HP.out, hgen⟩)
          go_wp2_with (refine RowSt.wpList_put 95 _ _ rfl rfl rfl (w.heap.size + 2) (tabC sl nd ⟨nx, ls, _, n, c, objs⟩) rfl rfl 95 _ hz6 (by kernel_rfl) rfl (by simp [Value.oneCell']) ?_; intro w9 hb9 hc9)
          refine bodyPost_ret (v := .tuple #[tabV sl nd ⟨nx, ls, _, n, c, objs⟩, .int .i64 28]) (RowSt.results_cell_tmp (p := 4) (q := 5) rfl _ _ (w.heap.size + 2) 95 _ (0, 0) _ rfl hb9 Try.underlying95 rfl (by kernel_rfl)) rfl ?_
          exact HNO.out _ _ (by decide) HC.out (HE6.out.chg hc9 fun i hi => by have hi : i = w.heap.size + 2 := hi; omega)
        · have HC : Hid (moveC sl nd ⟨nx, ls, some ad, n, c, objs⟩ o = 0) := Lib.hid (by
            unfold moveC
            rw [if_neg HNB.out, if_neg (by rw [HTO.out]; exact fun k => k HRIGHT.out), if_neg]
            rw [HROW.out, HQT.out]
            rintro ⟨p2, hp2, h2⟩
            rw [HP.out] at hp2
            cases hp2
            exact hgen h2)
          have hlo := (sl_len H.out).1
          have HLO := Lib.hid hlo
          have HLL : Hid ((cellsL objS objs).length = n * 6) := Lib.hid (by rw [cellsL_length, hlo]; rfl)
          clear hlo
          have t4a : ∀ ob, (w6.alloc ob).cell? ⟨w.heap.size, 4, none⟩ = some (.slice (some ad) n c) := fun ob => (Ext.new w6 ob).cell_ t4
          have hlt6 : w.heap.size + 2 < w6.heap.size := Pack.lt_of_at HZ6.out
          go_upto_region 12 with (at_builtin; refine wpList_appV _ rfl _ _ _ rfl (fun i => w6.heap.size ≤ i) 200 _ 6 72 Try.underlying93 infoRObj rfl (by decide) (by decide) _ 0 [] rfl (own_empty (at_new w6 _) (Nat.le_refl _)) (some ad) n c (cellsL objS objs) rfl HLL.out (fun h => by cases h) (fun ad' ha j' u hu => (HE6.out.trans (Ext.new w6 _)).cell_ (ok_cells H.out (by decide) ad' ha j' u hu)) (cellsL_one_ _ _) (by omega) (fun i hi => Nat.le_trans (by simp) hi) ?_; intro A9 c9 w7 ho7 hc7; have hE67 : Ext w6 w7 := (Ext.new w6 (.cells #[] 200)).chg hc7 (fun i hi => by have hi : some w6.heap.size = some i := hi; cases hi; exact Nat.le_refl _); have ht7 := hE67.at_ HT6.out; have f7 := Pack.free_of ht7 4; have x7 := blk_cell (i := 4) ht7 (Ext.refl _) rfl)
          -- the new list, in its variable
          have HE67 := Lib.hid hE67
          have HO7 : Hid (New w6 w7 200 6 A9 n c9 (cellsL objS objs)) := Lib.hid (by simpa using ho7)
          have hs8 := set_blk (i := 4) ht7 (.slice A9 n c9)
          have hc8 : Chg (fun i => i = w.heap.size) w7 (w7.setCell ⟨w.heap.size, 4, none⟩ (.slice A9 n c9)) := (Chg.refl (fun i => i = w.heap.size) w7).setCell (p := ⟨w.heap.size, 4, none⟩) rfl _
          clear ho7 hc7 x7 f7 t0 t1 t2 t3 t4 tf0 tf1 tf2 tf3 tf4 t4a ht6 hz6 o10 p1 hE67
          have ho8 := HO7.out.chg hc8 fun i (hi : w6.heap.size ≤ i) e => by have e : i = w.heap.size := e; omega
          have how8 := ((HOW5.out.extNew HE56.out).extNew HE67.out).chg hc8 fun i (hi : w4.heap.size ≤ i) e => by have e : i = w.heap.size := e; have := HE34.out.size; omega
          have hlt7 : w6.heap.size ≤ w7.heap.size := HE67.out.size
          have HB8 := Lib.hid (hc8.at_ (HE67.out.at_ HB6.out) (by omega))
          have HZ8 := Lib.hid (hc8.at_ (HE67.out.at_ HZ6.out) (by omega))
          have HE8 := Lib.hid ((HE6.out.trans HE67.out).chg hc8 fun i hi => by have hi : i = w.heap.size := hi; omega)
          have HT8 : Hid ((w7.setCell ⟨w.heap.size, 4, none⟩ (.slice A9 n c9)).heap[w.heap.size]? = some (.cells #[.int .i64 sl, .int .i64 nd, .int .u32 nx, .int .u32 ls, .slice A9 n c9] 95 (0, 0))) := Lib.hid (by simpa using hs8)
          have HO8 := Lib.hid ho8
          have HOW8 := Lib.hid how8
          have hsz8 : (w7.setCell ⟨w.heap.size, 4, none⟩ (.slice A9 n c9)).heap.size = w7.heap.size := by simp
          clear ho8 how8 hs8 hc8 ht7
          generalize w7.setCell ⟨w.heap.size, 4, none⟩ (.slice A9 n c9) = w8 at *
          rcases A9 with _ | a9
          · have := (Splice.own_none HO8.out).1
            omega
          obtain ⟨g9, cur9, rfl, hg9, hnc9, hcm9, hcs9, hcx9, hS9, hl9⟩ := Splice.blk_own HO8.out
          have hS9 : w6.heap.size ≤ g9 := hS9
          have HG9 := Lib.hid hg9
          have hcell5 : w8.cell? ⟨g9, k * 6 + 5, none⟩ = some (.slice (some adp) (pN ob) (pC ob)) := by
            have h1 : (cellsL objS objs)[k * objS.size + 5]? = some (.slice (some adp) (pN ob) (pC ob)) := by
              rw [cellsL_get HOB.out (by decide), ← HPA.out]
              rfl
            obtain ⟨a', h2, h3⟩ := own_cell HO8.out h1
            cases h2
            rw [Splice.add_zero_] at h3
            simpa [Sh.size, Fs.size] using h3
          have HC8 := Lib.hid hcell5
          have HD8 := Lib.hid (HE8.out.trans (Ext.drew (Ext.refl _)))
          have HRLL : Hid ((cellsL rowS (rows ob)).length = pN ob * 1) := Lib.hid (by rw [cellsL_length, HRL2.out]; rfl)
          have y4 : ∀ W, Ext w8.drew W → W.cell? ⟨w.heap.size, 4, none⟩ = some (.slice (some ⟨g9, 0, none⟩) n c9) := fun W hW => blk_cell (i := 4) HT8.out (drew_ext hW) rfl
          have y5 : ∀ W, Ext w8.drew W → W.cell? ⟨g9, k * 6 + 5, none⟩ = some (.slice (some adp) (pN ob) (pC ob)) := fun W hW => (drew_ext hW).cell_ HC8.out
          clear hg9 hcx9 hl9 hcell5
          refine Lex.wp_region_r [0, 1, 2, 3, 4, 5, 6, 7, 8, 9, 10, 11, 12] [13] [(10, 3)] [(3, Lex.rowR w8.drew 185 1 0 []), (10, Lex.rowR w8.drew 185 1 (pN ob) (cellsL rowS (rows ob)))] (by kernel_rfl) (by kernel_rfl) (by kernel_rfl) (by repeat (first | exact Lex.ok_nilR | refine Lex.ok_consR (by first | exact Lex.rowR_ok | exact Tbl.rdR_ok | assumption) ?_)) ?_; simp only [Lex.pick, List.getElem?_cons_succ, List.getElem?_cons_zero, List.map_cons, List.map_nil]
          repeat (first | (refine Lex.lexR_skip (by rfl) ?_; simp only [Act.put, List.setIfInBounds_toArray, List.set_cons_zero, List.set_cons_succ]) | (refine Lex.lexR_still (by rfl) (by rfl) ?_; apply Exists.intro; refine ⟨fun W hW => ?_, ?_⟩; (have hE := hW; have hE2 := Lex.ext_drew hE; clear hW; go_simp; try with_reducible rfl); simp only [Act.put, List.setIfInBounds_toArray, List.set_cons_zero, List.set_cons_succ]))
          refine Lex.lexR_loose (by rfl) (by rfl) (fun W hW hAP => ?_) ?_
          · have hE := hW.1
            clear hW
            go_simp
            exact Lex.rowR_new hE.size (Ext.new _ _) (own_empty (at_new _ _) (Nat.le_refl _))
          rintro v fx ⟨A0, c0, rfl⟩
          simp only [Act.put, List.setIfInBounds_toArray, List.set_cons_zero, List.set_cons_succ]
          repeat (first | (refine Lex.lexR_skip (by rfl) ?_; simp only [Act.put, List.setIfInBounds_toArray, List.set_cons_zero, List.set_cons_succ]) | (refine Lex.lexR_still (by rfl) (by rfl) ?_; apply Exists.intro; refine ⟨fun W hW => ?_, ?_⟩; (have hE := hW; have hE2 := Lex.ext_drew hE; clear hW; go_simp; try with_reducible rfl); simp only [Act.put, List.setIfInBounds_toArray, List.set_cons_zero, List.set_cons_succ]))
          refine Lex.lexR_loose (by rfl) (by rfl) (fun W hW hAP => ?_) ?_
          · obtain ⟨hown, hfo⟩ := ((hW.2 3 (by kernel_rfl) rfl).2 rfl) _ _ rfl
            have hE := hW.1
            clear hW
            refine Lex.app_looseR (.tmp 97) (.tmp 103) _ rfl 185 _ 1 24 Try.underlying86 infoRRow rfl (by decide) (by decide) rfl hown (fun i hi => ⟨3, by simp, .inr ⟨rfl, hfo i hi⟩⟩) rfl HRLL.out (fun h => by cases h) (fun ad' ha j' u hu => (HD8.out.trans hE).cell_ (ok_cells HRL.out (by decide) ad' (by rw [HPA.out]; exact ha) j' u hu)) (cellsL_one_ _ _) (by omega) hE.size (Nat.zero_add _) rfl
          rintro v fx ⟨A12, c12, rfl⟩
          simp only [Act.put, List.setIfInBounds_toArray, List.set_cons_zero, List.set_cons_succ]
          repeat (first | (refine Lex.lexR_skip (by rfl) ?_; simp only [Act.put, List.setIfInBounds_toArray, List.set_cons_zero, List.set_cons_succ]) | (refine Lex.lexR_still (by rfl) (by rfl) ?_; apply Exists.intro; refine ⟨fun W hW => ?_, ?_⟩; (have hE := hW; have hE2 := Lex.ext_drew hE; clear hW; go_simp; try with_reducible rfl); simp only [Act.put, List.setIfInBounds_toArray, List.set_cons_zero, List.set_cons_succ]))
          refine Lex.lexR_nil (fun W hW hF => ?_)
          have hown12 := (((hF 10 rfl).2 rfl) _ _ rfl).1
          have hEW := Lex.ext_drew hW
          clear hW hF y4 y5
          have HE8W := Lib.hid hEW
          rcases A12 with _ | a12
          · have := (Splice.own_none hown12).1
            omega
          obtain ⟨g12, cur12, rfl, hg12, hnc12, hcm12, hcs12, hcx12, hS12, hl12⟩ := Splice.blk_own hown12
          have hS12 : w8.heap.size ≤ g12 := hS12
          have hg9w := hEW.at_ HG9.out
          have x5 : W.cell? ⟨g9, k * 6 + 5, none⟩ = some (.slice (some adp) (pN ob) (pC ob)) := hEW.cell_ HC8.out
          have f5 := Pack.free_of hg9w (k * 6 + 5)
          have hne : g12 ≠ g9 := fun e => by rw [e, hg9w] at hg12; cases hg12
          have hc9 : Chg (fun i => i = g9) W (W.setCell ⟨g9, k * 6 + 5, none⟩ (.slice (some ⟨g12, 0, none⟩) (pN ob) c12)) := (Chg.refl (fun i => i = g9) W).setCell (p := ⟨g9, k * 6 + 5, none⟩) rfl _
          have hset := own_setv (HO8.out.extNew hEW) (k * 6 + 5) (.slice (some ⟨g12, 0, none⟩) (pN ob) c12)
          rw [Splice.add_zero_, Nat.zero_add, cellsL_set5 (l := (rows ob).set j (mkRow (some ⟨g8, 0, none⟩) sl c8 ((rP r).set q (pl o.node o.gen)))) HOB.out] at hset
          have hkd : ∀ e, e ≠ 200 → ∀ i, i = g9 → i < W.heap.size → ∃ c e' f, W.heap[i]? = some (.cells c e' f) ∧ e ≠ e' := fun e he i hi _ => by subst hi; exact ⟨_, _, _, hg9w, he⟩
          have h12 := Own.kind hown12 hc9 (hkd _ (by decide))
          have h8 := Own.kind (HOW8.out.extNew hEW) hc9 (hkd _ (by decide))
          have hw9 : w.heap.size ≠ g9 := by omega
          have HT9 := Lib.hid (hc9.at_ (hEW.at_ HT8.out) hw9)
          have HB9 := Lib.hid (hc9.at_ (hEW.at_ HB8.out) (by omega))
          have HZ9 := Lib.hid (hc9.at_ (hEW.at_ HZ8.out) (by omega))
          have hc9' : Ext w (W.setCell ⟨g9, k * 6 + 5, none⟩ (.slice (some ⟨g12, 0, none⟩) (pN ob) c12)) := (HE8.out.trans hEW).chg hc9 fun i hi => by have hi : i = g9 := hi; omega
          have HE9 := Lib.hid hc9'
          have q5 : (W.setCell ⟨g9, k * 6 + 5, none⟩ (.slice (some ⟨g12, 0, none⟩) (pN ob) c12)).cell? ⟨g9, k * 6 + 5, none⟩ = some (.slice (some ⟨g12, 0, none⟩) (pN ob) c12) := by
            have h1 := set_blk (i := k * 6 + 5) hg9w (.slice (some ⟨g12, 0, none⟩) (pN ob) c12)
            refine blk_cell (i := k * 6 + 5) h1 (Ext.refl _) ?_
            rw [Array.getElem?_setIfInBounds_self_of_lt]
            omega
          have HQ5 := Lib.hid q5
          have HL9 := Lib.hid hset
          have HP9 := Lib.hid h12
          have HX9 := Lib.hid h8
          clear hset h12 h8 hc9 hc9' q5 hkd hown12 hg12 hcx12 hl12 hg9w
          go_wp2_with fail
          try simp only [Lex.onlyN]
          go_upto_region 13 with fail
          generalize W.setCell ⟨g9, k * 6 + 5, none⟩ (.slice (some ⟨g12, 0, none⟩) (pN ob) c12) = w9 at *
          clear x5 f5
          have y4 : ∀ W, Ext w9.drew W → W.cell? ⟨w.heap.size, 4, none⟩ = some (.slice (some ⟨g9, 0, none⟩) n c9) := fun W hW => blk_cell (i := 4) HT9.out (drew_ext hW) rfl
          have y5 : ∀ W, Ext w9.drew W → W.cell? ⟨g9, k * 6 + 5, none⟩ = some (.slice (some ⟨g12, 0, none⟩) (pN ob) c12) := fun W hW => (drew_ext hW).cell_ HQ5.out
          have z7 : ∀ W, Ext w9.drew W → W.cell? ⟨w.heap.size + 1, 7, none⟩ = some (.int .i64 (j : Nat)) := fun W hW => blk_cell (i := 7) HB9.out (drew_ext hW) rfl
          refine Lex.wp_region_u [0, 1, 2, 3, 4, 5, 6, 7, 8, 9] [10] [] (by kernel_rfl) (by kernel_rfl) (by repeat (first | exact Lex.st_nil | refine Lex.st_cons (by first | exact Lex.nums_st | exact Lex.const_st | exact Lex.such_st | exact Lex.row_st | exact Lex.rowE_st | exact Lex.litR_st | assumption) ?_)) ?_; simp only [Lex.pick, List.getElem?_cons_succ, List.getElem?_cons_zero, List.map_cons, List.map_nil]
          repeat (first | (refine Lex.lexU_skip (by rfl) ?_; simp only [Act.put, List.setIfInBounds_toArray, List.set_cons_zero, List.set_cons_succ]) | (refine Lex.lexU_still (by rfl) (by rfl) (by first | exact Base.Ext.refl | exact Lex.Fill.refl) ?_; apply Exists.intro; refine ⟨fun W hW => ?_, ?_⟩; (have hE := Lex.ext_of_cls hW.1; have hE2 := Lex.ext_drew hE; clear hW; go_simp; try with_reducible rfl); simp only [Act.put, List.setIfInBounds_toArray, List.set_cons_zero, List.set_cons_succ]))
          refine Lex.lexU_nil (fun W hW => ?_)
          have hEW := Lex.ext_drew hW.1
          clear hW y4 y5 z7
          obtain ⟨g12', cur12', hq12, hg12, _, _, hcs12', hcx12', _, _⟩ := Splice.blk_own HP9.out
          cases hq12
          have hg12w := hEW.at_ hg12
          obtain ⟨vj, hvj⟩ : ∃ vj, cur12'.toList[j]? = some vj := ⟨_, List.getElem?_eq_getElem (by rw [Array.length_toList, hcs12']; omega)⟩
          have x12 : W.cell? ⟨g12, j, none⟩ = some vj := Splice.cell_blk hg12w hvj
          have f12 := Pack.free_of hg12w j
          have hc10 : Chg (fun i => i = g12) W (W.setCell ⟨g12, j, none⟩ (.slice (some ⟨g8, 0, none⟩) sl c8)) := (Chg.refl (fun i => i = g12) W).setCell (p := ⟨g12, j, none⟩) rfl _
          have hset := own_setv (HP9.out.extNew hEW) j (.slice (some ⟨g8, 0, none⟩) sl c8)
          rw [Splice.add_zero_, Nat.zero_add] at hset
          have hset : New w8.drew (W.setCell ⟨g12, j, none⟩ (.slice (some ⟨g8, 0, none⟩) sl c8)) 185 1 (some ⟨g12, 0, none⟩) (pN ob) c12 (cellsL rowS ((rows ob).set j (mkRow (some ⟨g8, 0, none⟩) sl c8 ((rP r).set q (pl o.node o.gen))))) := by
            rw [← rowsL_set]
            exact hset
          have hkd : ∀ e, e ≠ 185 → ∀ i, i = g12 → i < W.heap.size → ∃ c e' f, W.heap[i]? = some (.cells c e' f) ∧ e ≠ e' := fun e he i hi _ => by subst hi; exact ⟨_, _, _, hg12w, he⟩
          have HL10 := Lib.hid (Own.kind (HL9.out.extNew hEW) hc10 (hkd _ (by decide)))
          have HX10 := Lib.hid (Own.kind (HX9.out.extNew hEW) hc10 (hkd _ (by decide)))
          have HP10 := Lib.hid hset
          have h8w : w.heap.size + 2 < w8.heap.size := Pack.lt_of_at HZ8.out
          have HT10 := Lib.hid (hc10.at_ (hEW.at_ HT9.out) (by omega))
          have HZ10 := Lib.hid (hc10.at_ (hEW.at_ HZ9.out) (by omega))
          have HE10 := Lib.hid ((HE9.out.trans hEW).chg hc10 fun i hi => by have hi : i = g12 := hi; omega)
          clear hset hc10 hkd hg12 hg12w hcx12' hvj hEW
          go_wp2_with fail
          try simp only [Lex.onlyN]
          go_upto_region 14 with fail
          generalize W.setCell ⟨g12, j, none⟩ (.slice (some ⟨g8, 0, none⟩) sl c8) = wx at *
          clear x12 f12
          have hb10 := HT10.out
          have t0 := blk_cell (i := 0) hb10 (Ext.refl _) rfl; have tf0 := Pack.free_of hb10 0; have t1 := blk_cell (i := 1) hb10 (Ext.refl _) rfl; have tf1 := Pack.free_of hb10 1; have t2 := blk_cell (i := 2) hb10 (Ext.refl _) rfl; have tf2 := Pack.free_of hb10 2; have t3 := blk_cell (i := 3) hb10 (Ext.refl _) rfl; have tf3 := Pack.free_of hb10 3; have t4 := blk_cell (i := 4) hb10 (Ext.refl _) rfl; have tf4 := Pack.free_of hb10 4
          go_wp2_with (refine RowSt.wpList_put 95 _ _ rfl rfl rfl (w.heap.size + 2) (tabC sl nd ⟨nx, ls, some ⟨g9, 0, none⟩, n, c9, objs.set k (mkObj ob (some ⟨g12, 0, none⟩) (pN ob) c12 ((rows ob).set j (mkRow (some ⟨g8, 0, none⟩) sl c8 ((rP r).set q (pl o.node o.gen)))))⟩) rfl rfl 95 _ HZ10.out (by kernel_rfl) rfl (by simp [Value.oneCell']) ?_; intro wz hbz hcz)
          refine bodyPost_ret (v := .tuple #[tabV sl nd ⟨nx, ls, some ⟨g9, 0, none⟩, n, c9, objs.set k (mkObj ob (some ⟨g12, 0, none⟩) (pN ob) c12 ((rows ob).set j (mkRow (some ⟨g8, 0, none⟩) sl c8 ((rP r).set q (pl o.node o.gen)))))⟩, .int .i64 0]) (RowSt.results_cell_tmp (p := 4) (q := 5) rfl _ _ (w.heap.size + 2) 95 _ (0, 0) _ rfl hbz Try.underlying95 rfl (by kernel_rfl)) rfl ?_
          rw [HQ.out, HC.out]
          have HEZ : Ext w wz := HE10.out.chg hcz fun i hi => by have hi : i = w.heap.size + 2 := hi; omega
          have hl := HL10.out.chg hcz fun i (hi : w6.heap.size ≤ i) e => by have e : i = w.heap.size + 2 := e; omega
          have hpz := HP10.out.chg hcz fun i (hi : w8.heap.size ≤ i) e => by have e : i = w.heap.size + 2 := e; omega
          have hxz := HX10.out.chg hcz fun i (hi : w4.heap.size ≤ i) e => by have e : i = w.heap.size + 2 := e; have := HE34.out.size; omega
          obtain ⟨k1, k2, k3, _⟩ := obj_ok HOBK.out
          have hsz4 : w.heap.size ≤ w4.heap.size := HE4.out.size
          have hsz6 : w.heap.size ≤ w6.heap.size := HE6.out.size
          have hsz8 : w.heap.size ≤ w8.heap.size := HE8.out.size
          refine ⟨_, rfl, HEZ, fun WK hW0 hWk => ?_, fun h => absurd rfl h, fun _ => ⟨k, ob, (mkObj ob (some ⟨g12, 0, none⟩) (pN ob) c12 ((rows ob).set j (mkRow (some ⟨g8, 0, none⟩) sl c8 ((rP r).set q (pl o.node o.gen))))), HK.out, HOB.out, by rw [HTO.out]; exact HRIGHT.out, ⟨rfl, rfl, rfl, rfl, by show ((rows ob).set _ _).length = _; rw [List.length_set], fun i r0 r' h1 h2 => ?_⟩, rfl, rfl, rfl⟩⟩
          · have hlK := keepE hl (by decide) hsz6 hWk
            have hpK := keepE hpz (by decide) hsz8 hWk
            have hxK := keepE hxz (by decide) hsz4 hWk
            have hrl0 : (Sh.sl rowS).ok w0 (pA ob, pN ob, pC ob, rows ob) := (obj_ok (sl_each H0.out HOB.out)).2.2.2
            have hrowz : (Sh.sl plS).ok WK (some ⟨g8, 0, none⟩, sl, c8, (rP r).set q (pl o.node o.gen)) :=
              ok_own (W := WK) (e := plS) hxK (by decide) HLEN5.out (fun x hx => HEACH.out x hx _) (fun a v _ hc => hc) (own_max hxz)
            have hplz : (Sh.sl rowS).ok WK (some ⟨g12, 0, none⟩, pN ob, c12, (rows ob).set j (mkRow (some ⟨g8, 0, none⟩) sl c8 ((rP r).set q (pl o.node o.gen)))) := by
              refine ok_own (W := WK) (e := rowS) hpK (by decide) (by rw [List.length_set]; exact HRL2.out) (fun x hx => ?_) (fun a v _ hc => hc) (own_max hpz)
              rcases List.mem_or_eq_of_mem_set hx with hx | hx
              · obtain ⟨i, hi, hix⟩ := List.getElem_of_mem hx
                exact Sh.ok_le hW0 _ _ (sl_each hrl0 (i := i) (by rw [List.getElem?_eq_getElem hi, hix]))
              · rw [hx]
                exact hrowz
            have hobz : objS.ok WK (mkObj ob (some ⟨g12, 0, none⟩) (pN ob) c12 ((rows ob).set j (mkRow (some ⟨g8, 0, none⟩) sl c8 ((rP r).set q (pl o.node o.gen))))) := by
              have hall : (Lit.int .u32 (num ob)).wf = true ∧ (name ob).size ≤ maxLen ∧ planS.ok WK (plan ob) ∧ (Sh.sl rowS).ok WK (some ⟨g12, 0, none⟩, pN ob, c12, (rows ob).set j (mkRow (some ⟨g8, 0, none⟩) sl c8 ((rP r).set q (pl o.node o.gen)))) ∧ True := ⟨k1, k2, plan_any k3, hplz, trivial⟩
              exact hall
            refine ok_own (W := WK) (e := objS) hlK (by decide) (by rw [List.length_set]; exact HLO.out) (fun x hx => ?_) (fun a v _ hc => hc) (own_max hl)
            rcases List.mem_or_eq_of_mem_set hx with hx | hx
            · obtain ⟨i, hi, hix⟩ := List.getElem_of_mem hx
              exact Sh.ok_le hW0 _ _ (sl_each H0.out (i := i) (by rw [List.getElem?_eq_getElem hi, hix]))
            · rw [hx]
              exact hobz
          · have h2 : ((rows ob).set j (mkRow (some ⟨g8, 0, none⟩) sl c8 ((rP r).set q (pl o.node o.gen))))[i]? = some r' := h2
            rw [HJT.out, HQT.out]
            by_cases hij : i = j
            · subst hij
              have hlt := (List.getElem?_eq_some_iff.1 h1).1
              rw [List.getElem?_set] at h2
              simp only [hlt, if_true] at h2
              cases h2
              rw [HR0.out] at h1
              cases h1
              exact ⟨HRSL.out.symm, by rw [if_pos rfl]; rfl⟩
            · rw [List.getElem?_set_ne (Ne.symm hij)] at h2
              rw [h1] at h2
              cases h2
              exact ⟨rfl, by rw [if_neg hij]⟩
end Go.Proofs.Ytipmkddcdnbihaa.Tbl
