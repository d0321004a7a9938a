import Derived.Test.YtipmkddcdnbihaaRef10Open
import Derived.Outline
namespace Go.Proofs.Ytipmkddcdnbihaa.Scan
open Go.RowKit Base
open Frm (mOf kOf nOf sOf loadOf form good scan used)

/-- A row of frames in memory: where each stands, its kind, and what it bears. -/
structure Row where
  p : Int
  k : Int
  A : Option Addr
  n : Nat
  c : Nat
  l : List Int
def Row.cells (r : Row) : List Value := [.int .i64 r.p, .int .u16 r.k, .slice r.A r.n r.c]
def Row.it (r : Row) : Int × Int × List Int := (r.p, r.k, r.l)
/-- A slice of frames, newer than w0. -/
structure Items (Z : Nat → Prop) (w0 w : World) (e : TypeId) (A : Option Addr) (n c : Nat) (rows : List Row) : Prop where
  len : rows.length = n
  own : New w0 w e 3 A n c (rows.flatMap Row.cells)
  rd : ∀ r ∈ rows, Rd w .u8 r.A r.n r.l ∧ ∀ e', 5 ≠ e' → Apt w0 e' w r.A r.n
  cap : ∀ r ∈ rows, r.n ≤ r.c ∧ (r.A = none → r.c = 0)
  src : ∀ r ∈ rows, 0 < r.n → ∀ ad, r.A = some ad → Z ad.block
theorem Items.ext {Z : Nat → Prop} {w0 w w' : World} {e : TypeId} {A : Option Addr} {n c : Nat} {rows : List Row} (h : Items Z w0 w e A n c rows) (he : Ext w w') : Items Z w0 w' e A n c rows :=
  ⟨h.len, h.own.extNew he, fun r hr => ⟨(h.rd r hr).1.ext he, fun e' hn => ((h.rd r hr).2 e' hn).ext he⟩, h.cap, h.src⟩
theorem Items.more {Z : Nat → Prop} {w0 w w' : World} {e : TypeId} {A A' : Option Addr} {m c c' : Nat} {rows : List Row} (h : Items Z w0 w e A m c rows) (r : Row) (hne : 5 ≠ e) (hr : Rd w .u8 r.A r.n r.l) (hs : ∀ e', 5 ≠ e' → Apt w0 e' w r.A r.n) (hk : r.n ≤ r.c ∧ (r.A = none → r.c = 0)) (hz : 0 < r.n → ∀ ad, r.A = some ad → Z ad.block)
    (ho : New w0 w' e 3 A' (m + 1) c' (rows.flatMap Row.cells ++ r.cells)) (hg : Chg (fun i => (Value.slice A m c).ownBlock = some i) w w') : Items Z w0 w' e A' (m + 1) c' (rows ++ [r]) :=
  ⟨by simp [h.len], by rw [List.flatMap_append]; simpa using ho, fun r' hr' => by
    have h1 : Rd w .u8 r'.A r'.n r'.l ∧ ∀ e', 5 ≠ e' → Apt w0 e' w r'.A r'.n := by
      rcases List.mem_append.1 hr' with h1 | h1
      · exact h.rd r' h1
      · rw [List.mem_singleton.1 h1]; exact ⟨hr, hs⟩
    exact ⟨h1.1.chg hg ((h1.2 e hne).ne h.own), fun e' hn => (h1.2 e' hn).chg hg ((h1.2 e hne).ne h.own)⟩, fun r' hr' => by
      rcases List.mem_append.1 hr' with h1 | h1
      · exact h.cap r' h1
      · rw [List.mem_singleton.1 h1]; exact hk, fun r' hr' => by
      rcases List.mem_append.1 hr' with h1 | h1
      · exact h.src r' h1
      · rw [List.mem_singleton.1 h1]; exact hz⟩
theorem info_item : (Try.prog.info? 321).map (fun i => (i.zero, i.size, i.bytes)) = some (some (.agg #[.int .i64 0, .int .u16 0, .slice none 0 0]), 3, 40) := by kernel_rfl

def J (w : World) (A : Option Addr) (n c : Nat) (xs : List Int) (a' : Act) (w' : World) : Prop :=
  ∃ (pos m : Nat) (A' : Option Addr) (c' : Nat) (u1 u6 u7 u8 u9 u10 u11 u12 u13 u14 u15 u16 u17 u18 u19 u20 u21 u22 u23 u24 u25 u26 u27 u28 u29 u30 u31 u32 : Value), a' = { tmps := #[.slice A n c, u1, .slice none 0 0, .int .i64 0, .slice A' m c', .int .i64 pos, u6, u7, u8, u9, u10, u11, u12, u13, u14, u15, u16, u17, u18, u19, u20, u21, u22, u23, u24, u25, u26, u27, u28, u29, u30, u31, u32], defers := [] } ∧ pos ≤ n ∧ m ≤ pos ∧
    Hid (Ext w w' ∧ ∃ f rows, Items (fun _ => True) w w' 321 A' m c' rows ∧ rows.map Row.it ++ scan f pos (xs.drop pos) = scan n 0 xs ∧ used f pos (xs.drop pos) = used n 0 xs ∧ (xs.drop pos).length ≤ f)
set_option maxHeartbeats 1600000 in
set_option maxRecDepth 100000 in
theorem scan_calls (A : Option Addr) (n c : Nat) (xs : List Int) (w : World) (hr : Rd w .u8 A n xs) (hc : n ≤ c) (h0 : A = none → c = 0) (hn : n ≤ 1099511627776) :
    Calls Try.prog 211 #[.slice A n c] w fun e w' => Ext w w' ∧ ∃ A' m c' rows, e = .returned (.tuple #[.slice A' m c', .int .i64 (used n 0 xs)]) ∧ Items (fun _ => True) w w' 321 A' m c' rows ∧ rows.map Row.it = scan n 0 xs := by
  have HL := Lib.hid hr.len
  have H0 := Lib.hid h0
  clear h0
  go_enter Try.func211, Try.ntmps211
  go_wp2
  refine wp_scope_jumps2 0 (J w A n c xs) (fun a' _ => n - (intOf (a'.tmps.getD 5 undef)).toNat) rfl ?_ ?_
  · rintro a' w1 ⟨pos, m, A', c', u1, u6, u7, u8, u9, u10, u11, u12, u13, u14, u15, u16, u17, u18, u19, u20, u21, u22, u23, u24, u25, u26, u27, u28, u29, u30, u31, u32, ha, hp, hmp, H⟩
    obtain ⟨he1, hJ⟩ := H.out
    have hr1 := rd_dropMap (hr.ext he1) hp
    have hU1 : Hid (Le.U8s (xs.drop pos)) := Lib.hid fun x hx => wf_u8 (hr1.wf x hx)
    have HL1 : Hid ((xs.drop pos).length = n - pos) := Lib.hid (by simp [HL.out])
    have HR2 : Hid (c = pos → Rd w1 .u8 A (n - pos) (xs.drop pos)) := Lib.hid fun h => by
      have : n - pos = 0 := by omega
      rw [this] at hr1 ⊢
      rw [List.eq_nil_of_length_eq_zero hr1.len]
      exact rd_nil _ _ _
    have HN : Hid (A.map (fun x => x.add pos) = none → c - pos = 0) := Lib.hid fun h => by
      have : A = none := by cases A <;> simp at h ⊢
      have := H0.out this
      omega
    have HJ := Lib.hid hJ
    generalize hys : xs.drop pos = ys at *
    have HYS := Lib.hid hys
    clear H hJ hys
    obtain ⟨f, rows, hi, hs, hu, hf⟩ := HJ.out
    have HU := Lib.hid hu
    have HS := Lib.hid hs
    have HF := Lib.hid hf
    clear hu hs hf
    subst ha
    by_cases hcp : c = pos
    · have hr2 := HR2.out hcp
      have hno : ¬ form ys := fun h => by have := h.1; rw [HL1.out] at this; omega
      have hst := Frm.scan_stop (f := f) (p := (pos : Int)) (fun h => hno h.1)
      rw [hst.1, List.append_nil] at HS
      rw [hst.2] at HU
      clear hst
      have HNO := Lib.hid hno
      clear hno hr1
      go_wp2_with fail
      ((with_reducible refine (SealOpen.open_calls _ _ _ ys _ hr2 ?c1 ?c2 ?c3).mono ?_))
      case c1 => omega
      case c2 => exact fun _ => rfl
      case c3 => omega
      rintro e w2 ⟨hb2, ho⟩
      rcases ho with ⟨_, rfl⟩ | ⟨hfo, _, rfl⟩ | ⟨hfo, _, A4, c4, rfl, ho4⟩
      · go_wp2_with fail
        simp only [Exit.jump]
        go_ret2
        exact ⟨he1.trans hb2, A', m, c', rows, by rw [← HU.out]; rfl, hi.ext hb2, HS.out⟩
      · exact absurd hfo HNO.out
      · exact absurd hfo HNO.out
    · go_wp2_with fail
      ((with_reducible refine (SealOpen.open_calls _ _ _ ys _ hr1 ?c1 ?c2 ?c3).mono ?_))
      case c1 => omega
      case c2 => exact HN.out
      case c3 => omega
      rintro e w2 ⟨hb2, ho⟩
      have he2 : Ext w1 w2 := hb2
      rcases ho with ⟨hno, rfl⟩ | ⟨hfo, hno, rfl⟩ | ⟨hfo, hgo, A4, c4, rfl, ho4⟩
      · have hst := Frm.scan_stop (f := f) (p := (pos : Int)) (fun h => hno h.1)
        rw [hst.1, List.append_nil] at HS
        rw [hst.2] at HU
        clear hst
        go_wp2_with fail
        simp only [Exit.jump]
        go_ret2
        exact ⟨he1.trans hb2, A', m, c', rows, by rw [← HU.out]; rfl, hi.ext hb2, HS.out⟩
      · have hst := Frm.scan_stop (f := f) (p := (pos : Int)) (fun h => hno h.2)
        rw [hst.1, List.append_nil] at HS
        rw [hst.2] at HU
        clear hst
        go_wp2_with fail
        simp only [Exit.jump]
        go_ret2
        exact ⟨he1.trans hb2, A', m, c', rows, by rw [← HU.out]; rfl, hi.ext hb2, HS.out⟩
      · have hrl := ho4.rd (fun x hx => hr1.wf x (List.mem_of_mem_drop (List.mem_of_mem_take hx)))
        have hnn := Frm.nOf_nonneg ys hU1.out
        obtain ⟨N, hN⟩ : ∃ N : Nat, nOf ys = N := ⟨(nOf ys).toNat, by omega⟩
        have hNl : N ≤ n - pos - 12 := by have := hfo.2.2.2; have := hfo.1; rw [HL1.out] at *; omega
        have hN12 : 12 ≤ n - pos := by have := hfo.1; rw [HL1.out] at this; exact this
        have hsg := Frm.scan_go (f := f) (p := (pos : Int)) ⟨hfo, hgo⟩ HF.out
        rw [hN, Int.toNat_natCast] at ho4 hrl hsg ⊢
        have HSG := Lib.hid hsg
        clear hsg hnn hfo hgo hN
        have hi2 := hi.ext he2
        have he02 := he1.trans he2
        go_wp2_with (at_builtin; refine wpList_moreE w _ rfl _ _ _ rfl 321 _ 3 40 Try.underlying317 info_item rfl (by decide) (by decide) _ _ _ rfl hi2.own he02 [.int .i64 pos, .int .u16 (kOf ys), .slice A4 N c4] rfl (by simp [Value.oneCell']) rfl ?c1 ?_)
        case c1 => omega
        intro A5 c5 w5 ho5 he5 hg5
        have hi5 := hi2.more ⟨pos, kOf ys, A4, N, c4, loadOf ys⟩ (by decide) hrl (fun e' hn => Apt.own ho4 hn) ho4.cap (fun _ _ _ => trivial) ho5 hg5
        have HI5 := Lib.hid hi5
        clear hi5 ho5 hg5 hi2 hrl ho4
        go_wp2_with fail
        go_step3
        rw [show ((pos : Int) + (12 + (N : Int))) = ((pos + (12 + N) : Nat) : Int) by omega]
        refine ⟨rfl, ⟨pos + (12 + N), m + 1, A5, c5, _, _, _, _, _, _, _, _, _, _, _, _, _, _, _, _, _, _, _, _, _, _, _, _, _, _, _, _, rfl, by omega, by omega, Lib.hid ⟨he5, ?_⟩⟩, ?_⟩
        · obtain ⟨g, _, h1, h2, h3⟩ := HSG.out
          refine ⟨g, rows ++ [⟨pos, kOf ys, A4, N, c4, loadOf ys⟩], HI5.out, ?_, ?_, ?_⟩
          · rw [← HS.out, h1, ← List.drop_drop, HYS.out, show ((pos + (12 + N) : Nat) : Int) = pos + 12 + N by omega]
            simp [Row.it]
          · rw [← HU.out, h2, ← List.drop_drop, HYS.out, show ((pos + (12 + N) : Nat) : Int) = pos + 12 + N by omega]
          · rw [← List.drop_drop, HYS.out]
            exact h3
        · simp [intOf]
          omega
  · intro pass
    go_wp2
    go_step3
    repeat (first | exact pass _ _ ⟨0, 0, none, 0, _, _, _, _, _, _, _, _, _, _, _, _, _, _, _, _, _, _, _, _, _, _, _, _, _, _, _, _, rfl, Nat.zero_le _, Nat.le_refl _, Lib.hid ⟨Ext.refl _, n, [], ⟨rfl, Own.nil _ _ _ _, (fun _ h => by cases h), (fun _ h => by cases h), (fun _ h => by cases h)⟩, by simp, by simp, by simp [HL.out]⟩⟩ | go_step)
theorem Items.same {Z : Nat → Prop} {w0 w : World} {e : TypeId} {A : Option Addr} {m c : Nat} {rows : List Row} {l : List (Int × Int × List Int)} (h : Items Z w0 w e A m c rows) (hl : rows.map Row.it = l) : m = l.length := by
  rw [← hl, List.length_map, h.len]
theorem scan_at (A : Option Addr) (n c : Nat) (xs : List Int) (w : World) (hr : Rd w .u8 A n xs) (hc : n ≤ c) (h0 : A = none → c = 0) (hn : n ≤ 1099511627776) :
    Calls Try.prog 211 #[.slice A n c] w fun e w' => Ext w w' ∧ ∃ A' c' rows, e = .returned (.tuple #[.slice A' (scan n 0 xs).length c', .int .i64 (used n 0 xs)]) ∧ Items (fun _ => True) w w' 321 A' (scan n 0 xs).length c' rows ∧ rows.map Row.it = scan n 0 xs :=
  (scan_calls A n c xs w hr hc h0 hn).mono fun _ _ ⟨h1, A', m, c', rows, h2, h3, h4⟩ => by
    have := h3.same h4
    subst this
    exact ⟨h1, A', c', rows, h2, h3, h4⟩
end Go.Proofs.Ytipmkddcdnbihaa.Scan
