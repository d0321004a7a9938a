/- A job rises, and sinks, as far as it must: walked. -/
import Derived.Test.YtipmkddcdnbihaaUrgB
import Derived.Deep.LoopGhost
import Derived.Deep.QuietTactic
import Derived.BigQuiet
namespace Go.Proofs.Ytipmkddcdnbihaa.Urg
open Go.RowKit Base Step MapIs Vec
open UrgP
/-- A job's three cells, in every world in which its queue stands. -/
theorem QueAt.cells {w : World} {S : Nat → Prop} {gq gm : Nat} {l : List Job} (h : QueAt w S gq gm l) {i : Nat} (hi : i < l.length) : ∃ g c, w.cell? ⟨gq, 0, none⟩ = some (.slice (some ⟨g, 0, none⟩) l.length c) ∧ w.cell? ⟨gq, 1, none⟩ = some (.map (some gm)) ∧
    w.cell? ⟨g, i * 3, none⟩ = some (.int .u32 (at_ l i).o) ∧ w.cell? ⟨g, i * 3 + 1, none⟩ = some (.int .u16 (at_ l i).s) ∧ w.cell? ⟨g, i * 3 + 2, none⟩ = some (.int .i64 (at_ l i).g) := by
  obtain ⟨A, c, hat, hown⟩ := h.row
  obtain ⟨g, rfl, i0, i1, i2⟩ := row_cell hown (at_get hi)
  exact ⟨g, c, blk_cell (i := 0) hat (Ext.refl _) rfl, blk_cell (i := 1) hat (Ext.refl _) rfl, i0, i1, i2⟩
theorem quo_par {i : Nat} (h : 0 < i) : Int.tdiv ((i : Int) - 1) 2 = (par i : Nat) := by
  obtain ⟨k, rfl⟩ : ∃ k, i = k + 1 := ⟨i - 1, by omega⟩
  rw [show ((k + 1 : Nat) : Int) - 1 = (k : Int) by omega, Int.tdiv_eq_ediv_of_nonneg (by omega)]
  show (k : Int) / 2 = ((k + 1 - 1) / 2 : Nat)
  rw [Nat.add_sub_cancel]
  rfl
/-- A queue under way: which jobs it has, and where a given one stands. -/
structure Way (w0 : World) (S : Nat → Prop) (gq gm : Nat) (l0 : List Job) (j : Job) (w : World) (l : List Job) (i : Nat) : Prop where
  q : QueAt w S gq gm l
  perm : l.Perm l0
  lt : i < l.length
  job : at_ l i = j
  chg : Chg S w0 w
set_option maxRecDepth 100000 in
set_option maxHeartbeats 4000000 in
theorem up_calls (S : Nat → Prop) (gq gm : Nat) (l : List Job) (i : Nat) (w : World) (h : QueAt w S gq gm l) (hi : i < l.length) (hG : G l i) (hlen : l.length ≤ 1099511627776) :
    Calls Try.prog 74 #[.pointer (some ⟨gq, 0, none⟩), .int .i64 i] w fun e w' => e = .returned (.tuple #[]) ∧ ∃ l' i', Way w S gq gm l (at_ l i) w' l' i' ∧ Dn l' i' := by
  have W0 := Lib.hid (show Way w S gq gm l (at_ l i) w l i from ⟨h, List.Perm.refl _, hi, rfl, Chg.refl _ _⟩)
  have HG := Lib.hid hG
  clear h hG
  go_enter Try.func74, Try.ntmps74
  go_wp2_with fail
  go_loopg [1] i (fun m v wr => ∃ (k : Nat) (lk : List Job), v = .int .i64 k ∧ k ≤ m ∧ Hid (Way w S gq gm l (at_ l i) wr lk k ∧ G lk k))
  case atStart => exact ⟨i, l, rfl, Nat.le_refl _, Lib.hid ⟨W0.out, HG.out⟩⟩
  case round =>
    obtain ⟨k, lk, rfl, hkm, HW⟩ := hrel
    by_cases hk0 : k = 0
    · subst hk0
      go_wp2_with fail
      go_quiet (fail)
      go_wp2_with fail
      go_end0
      obtain ⟨a, b⟩ := HW.out
      have hE : Ext wr (wr.drewN nq) := (Ext.refl _).drewN _
      exact ⟨rfl, lk, 0, ⟨a.q.ext hE, a.perm, a.lt, a.job, chg_ext a.chg hE⟩, b.stop fun h => absurd h (Nat.lt_irrefl 0)⟩
    · have hpk : par k < lk.length := by have := HW.out.1.lt; show (k - 1) / 2 < _; omega
      have hq := quo_par (i := k) (by omega)
      obtain ⟨g, c, q0, q1, k0, k1, k2⟩ := HW.out.1.q.cells HW.out.1.lt
      obtain ⟨_, _, q0', _, p0, p1, p2⟩ := HW.out.1.q.cells hpk
      rw [q0] at q0'
      cases q0'
      have hkl : (k : Int) < lk.length := by have := HW.out.1.lt; omega
      have hpl : ((par k : Nat) : Int) < lk.length := by omega
      have hk1 : 0 < k := by omega
      obtain ⟨a, ha⟩ : ∃ a, a = at_ lk k := ⟨_, rfl⟩
      obtain ⟨b, hb⟩ : ∃ b, b = at_ lk (par k) := ⟨_, rfl⟩
      rw [← ha] at k0 k1 k2
      rw [← hb] at p0 p1 p2
      have HA := Lib.hid (And.intro ha hb)
      clear ha hb
      obtain ⟨p, hp⟩ : ∃ p, p = par k := ⟨_, rfl⟩
      rw [← hp] at hpl p0 p1 p2 hq
      have HP := Lib.hid hp
      clear hp hpk
      replace q0 : ∀ W, Ext wr.drew W → W.cell? ⟨gq, 0, none⟩ = some (.slice (some ⟨g, 0, none⟩) lk.length c) := fun W hW => (drew_ext hW).cell_ q0
      replace k0 : ∀ W, Ext wr.drew W → W.cell? ⟨g, k * 3, none⟩ = some (.int .u32 a.o) := fun W hW => (drew_ext hW).cell_ k0
      replace k1 : ∀ W, Ext wr.drew W → W.cell? ⟨g, k * 3 + 1, none⟩ = some (.int .u16 a.s) := fun W hW => (drew_ext hW).cell_ k1
      replace k2 : ∀ W, Ext wr.drew W → W.cell? ⟨g, k * 3 + 2, none⟩ = some (.int .i64 a.g) := fun W hW => (drew_ext hW).cell_ k2
      replace p0 : ∀ W, Ext wr.drew W → W.cell? ⟨g, p * 3, none⟩ = some (.int .u32 b.o) := fun W hW => (drew_ext hW).cell_ p0
      replace p1 : ∀ W, Ext wr.drew W → W.cell? ⟨g, p * 3 + 1, none⟩ = some (.int .u16 b.s) := fun W hW => (drew_ext hW).cell_ p1
      replace p2 : ∀ W, Ext wr.drew W → W.cell? ⟨g, p * 3 + 2, none⟩ = some (.int .i64 b.g) := fun W hW => (drew_ext hW).cell_ p2
      clear q1
      have hw1 : IntKind.i64.wrap ((k : Int) - 1) = (k : Int) - 1 := IntWalk.i64_in _ (by have := HW.out.1.lt; have := HW.out.1.perm.length_eq; omega)
      have hw2 : IntKind.i64.wrap ((p : Nat) : Int) = p := IntWalk.i64_in _ (by have := HW.out.1.lt; have := HW.out.1.perm.length_eq; omega)
      go_wp2_with fail
      refine Lex.wp_region_u [0, 1, 2, 3, 4, 5, 6, 7, 8, 9, 10, 11, 12, 13, 14, 15, 16, 17, 18, 19, 20] [] [(19, .const (.bool (UrgP.ahead a b)))] (by kernel_rfl) (by kernel_rfl) (by repeat (first | exact Lex.st_nil | refine Lex.st_cons (by first | exact Lex.nums_st | exact Lex.const_st | exact Lex.such_st | exact Lex.row_st | exact Lex.rowE_st | exact Lex.litR_st | assumption) ?_)) ?_; simp only [Lex.pick, List.getElem?_cons_succ, List.getElem?_cons_zero, List.map_nil]
      repeat (first | (refine Lex.lexU_skip (by rfl) ?_; simp only [Act.put, List.setIfInBounds_toArray, List.set_cons_zero, List.set_cons_succ]) | (refine Lex.lexU_still (by rfl) (by rfl) (by first | exact Base.Ext.refl | exact Lex.Fill.refl) ?_; apply Exists.intro; refine ⟨fun W hW => ?_, ?_⟩; (have hE := Lex.ext_of_cls hW.1; have hE2 := Lex.ext_drew hE; clear hW; go_simp; try with_reducible rfl); simp only [Act.put, List.setIfInBounds_toArray, List.set_cons_zero, List.set_cons_succ]))
      refine Lex.lexU_loose (by rfl) (by rfl) (fun W hW => ?_) ?_
      · clear hW
        go_simp
        refine (ahead_calls a b _).mono ?_
        rintro e w9 ⟨rfl, he9⟩
        exact ⟨_, rfl, rfl, he9, trivial⟩
      rintro v rfl
      simp only [Act.put, List.setIfInBounds_toArray, List.set_cons_zero, List.set_cons_succ]
      repeat (first | (refine Lex.lexU_skip (by rfl) ?_; simp only [Act.put, List.setIfInBounds_toArray, List.set_cons_zero, List.set_cons_succ]) | (refine Lex.lexU_still (by rfl) (by rfl) (by first | exact Base.Ext.refl | exact Lex.Fill.refl) ?_; apply Exists.intro; refine ⟨fun W hW => ?_, ?_⟩; (have hE := Lex.ext_of_cls hW.1; have hE2 := Lex.ext_drew hE; clear hW; go_simp; try with_reducible rfl); simp only [Act.put, List.setIfInBounds_toArray, List.set_cons_zero, List.set_cons_succ]))
      refine Lex.lexU_nil (fun W hW => ?_)
      have hE := Lib.hid (Lex.ext_drew hW.1)
      clear hW q0 k0 k1 k2 p0 p1 p2
      refine Lex.onlyN_intro ?_
      obtain ⟨r, hr⟩ : ∃ r, r = UrgP.ahead a b := ⟨_, rfl⟩
      rw [← hr]
      have HR := Lib.hid hr
      clear hr
      cases r with
      | false =>
        go_wp2_with fail
        go_end0
        obtain ⟨x, y⟩ := HW.out
        refine ⟨rfl, lk, k, ⟨x.q.ext hE.out, x.perm, x.lt, x.job, chg_ext x.chg hE.out⟩, y.stop fun _ => ?_⟩
        show UrgP.ahead (at_ lk k) (at_ lk (par k)) = false
        rw [← HA.out.1, ← HA.out.2]
        exact HR.out.symm
      | true =>
        go_wp2_with fail
        refine (swap_calls S gq gm lk k p W (HW.out.1.q.ext hE.out) HW.out.1.lt (by omega) (by have := HP.out; show k ≠ p; rw [this]; show k ≠ (k - 1) / 2; omega) (by rw [HW.out.1.perm.length_eq]; exact hlen)).mono ?_
        rintro e w5 ⟨rfl, hq5, hc5⟩
        have HQ5 := Lib.hid hq5
        have HC5 := Lib.hid hc5
        clear hq5 hc5
        go_wp2_with fail
        go_roundg p
        case measure => have := HP.out; have h2 : p = (k - 1) / 2 := this; omega
        case rel =>
          obtain ⟨x, y⟩ := HW.out
          have hpl' : p < lk.length := by omega
          have hp' : p = par k := HP.out
          refine ⟨p, swp lk k p, rfl, Nat.le_refl _, Lib.hid ⟨⟨HQ5.out, (swp_perm x.lt hpl').trans x.perm, by rw [swp_len]; exact hpl', ?_, (chg_ext x.chg hE.out).trans HC5.out⟩, ?_⟩⟩
          · rw [swp_at x.lt hpl' hpl', if_pos rfl, x.job]
          · subst hp'
            exact y.step hk1 x.lt (by rw [← HA.out.1, ← HA.out.2]; exact HR.out.symm)
theorem Way.ext {w0 w w' : World} {S : Nat → Prop} {gq gm : Nat} {l0 l : List Job} {j : Job} {i : Nat} (h : Way w0 S gq gm l0 j w l i) (he : Ext w w') : Way w0 S gq gm l0 j w' l i := ⟨h.q.ext he, h.perm, h.lt, h.job, chg_ext h.chg he⟩
/-- The least of a job and some of those below it. -/
structure Least (l : List Job) (i b c : Nat) : Prop where
  lo : 2 * i + 1 ≤ c
  hi : c ≤ 2 * i + 3
  lt : b < l.length
  all : ∀ d, 2 * i + 1 ≤ d → d < c → d < l.length → UrgP.ahead (at_ l d) (at_ l b) = false
  self : b = i ∨ (par b = i ∧ 0 < b ∧ UrgP.ahead (at_ l b) (at_ l i) = true)
set_option maxRecDepth 100000 in
set_option maxHeartbeats 4000000 in
theorem down_calls (S : Nat → Prop) (gq gm : Nat) (l : List Job) (i : Nat) (w : World) (h : QueAt w S gq gm l) (hi : i < l.length) (hG : Dn l i) (hlen : l.length ≤ 1099511627776) :
    Calls Try.prog 75 #[.pointer (some ⟨gq, 0, none⟩), .int .i64 i] w fun e w' => e = .returned (.tuple #[]) ∧ ∃ l', QueAt w' S gq gm l' ∧ l'.Perm l ∧ UrgP.Heap l' ∧ Chg S w w' := by
  have W0 := Lib.hid (show Way w S gq gm l (at_ l i) w l i from ⟨h, List.Perm.refl _, hi, rfl, Chg.refl _ _⟩)
  have HG := Lib.hid hG
  clear h hG
  go_enter Try.func75, Try.ntmps75
  go_wp2_with fail
  go_loopg [1] (l.length - i) (fun m v wr => ∃ (k : Nat) (lk : List Job), v = .int .i64 k ∧ l.length - k ≤ m ∧ Hid (Way w S gq gm l (at_ l i) wr lk k ∧ Dn lk k))
  case atStart => exact ⟨i, l, rfl, Nat.le_refl _, Lib.hid ⟨W0.out, HG.out⟩⟩
  case round =>
    obtain ⟨k, lk, rfl, hkm, HW⟩ := hrel
    have hln : lk.length = l.length := HW.out.1.perm.length_eq
    have hkl : k < lk.length := HW.out.1.lt
    have hw1 : IntKind.i64.wrap (2 * (k : Int)) = 2 * (k : Int) := IntWalk.i64_in _ (by omega)
    have hw2 : IntKind.i64.wrap (2 * (k : Int) + 1) = 2 * (k : Int) + 1 := IntWalk.i64_in _ (by omega)
    have hw3 : IntKind.i64.wrap (2 * (k : Int) + 2) = 2 * (k : Int) + 2 := IntWalk.i64_in _ (by omega)
    have HLN := Lib.hid hln
    have hk60 : (k : Int) ≤ 1099511627776 := by omega
    clear hln
    go_wp2_with fail
    go_loopg [4, 5] 3 (fun m v4 v5 wx => ∃ b c : Nat, v4 = .int .i64 b ∧ v5 = .int .i64 c ∧ 2 * k + 3 - c ≤ m ∧ Hid (Way w S gq gm l (at_ l i) wx lk k) ∧ Hid (Least lk k b c))
    case atStart => exact ⟨k, 2 * k + 1, rfl, by first | rfl | go_num, by omega, Lib.hid HW.out.1, Lib.hid ⟨by omega, by omega, hkl, fun d h1 h2 => by omega, .inl rfl⟩⟩
    case round =>
      obtain ⟨b, c, rfl, rfl, hcm, HX, HL⟩ := hrel
      have hb := HL.out.lt
      have hlo := HL.out.lo
      have hhi := HL.out.hi
      by_cases hin : c ≤ 2 * k + 2 ∧ c < lk.length
      · obtain ⟨h1, h2⟩ := hin
        obtain ⟨g, cc, q0, _, k0, k1, k2⟩ := HX.out.q.cells h2
        obtain ⟨_, _, q0', _, p0, p1, p2⟩ := HX.out.q.cells hb
        rw [q0] at q0'
        cases q0'
        have hc1 : (c : Int) ≤ 2 * (k : Int) + 2 := by omega
        have hc2 : (c : Int) < lk.length := by omega
        have hb2 : (b : Int) < lk.length := by omega
        obtain ⟨x, hx⟩ : ∃ x, x = at_ lk c := ⟨_, rfl⟩
        obtain ⟨y, hy⟩ : ∃ y, y = at_ lk b := ⟨_, rfl⟩
        rw [← hx] at k0 k1 k2
        rw [← hy] at p0 p1 p2
        have HA := Lib.hid (And.intro hx hy)
        clear hx hy
        have hw4 : IntKind.i64.wrap ((c : Int) + 1) = (c : Int) + 1 := IntWalk.i64_in _ (by have := HLN.out; omega)
        go_wp2_with fail
        clear hc1
        replace q0 : ∀ W, Ext wr.drew W → W.cell? ⟨gq, 0, none⟩ = some (.slice (some ⟨g, 0, none⟩) lk.length cc) := fun W hW => (drew_ext hW).cell_ q0
        replace k0 : ∀ W, Ext wr.drew W → W.cell? ⟨g, c * 3, none⟩ = some (.int .u32 x.o) := fun W hW => (drew_ext hW).cell_ k0
        replace k1 : ∀ W, Ext wr.drew W → W.cell? ⟨g, c * 3 + 1, none⟩ = some (.int .u16 x.s) := fun W hW => (drew_ext hW).cell_ k1
        replace k2 : ∀ W, Ext wr.drew W → W.cell? ⟨g, c * 3 + 2, none⟩ = some (.int .i64 x.g) := fun W hW => (drew_ext hW).cell_ k2
        replace p0 : ∀ W, Ext wr.drew W → W.cell? ⟨g, b * 3, none⟩ = some (.int .u32 y.o) := fun W hW => (drew_ext hW).cell_ p0
        replace p1 : ∀ W, Ext wr.drew W → W.cell? ⟨g, b * 3 + 1, none⟩ = some (.int .u16 y.s) := fun W hW => (drew_ext hW).cell_ p1
        replace p2 : ∀ W, Ext wr.drew W → W.cell? ⟨g, b * 3 + 2, none⟩ = some (.int .i64 y.g) := fun W hW => (drew_ext hW).cell_ p2
        refine Lex.wp_region_u [0, 1, 2, 3, 4, 5, 6, 7, 8, 9, 10, 11, 12, 13, 14] [] [(14, .const (.bool (UrgP.ahead x y)))] (by kernel_rfl) (by kernel_rfl) (by repeat (first | exact Lex.st_nil | refine Lex.st_cons (by first | exact Lex.nums_st | exact Lex.const_st | exact Lex.such_st | exact Lex.row_st | exact Lex.rowE_st | exact Lex.litR_st | assumption) ?_)) ?_; simp only [Lex.pick, List.getElem?_cons_succ, List.getElem?_cons_zero, List.map_nil]
        repeat (first | (refine Lex.lexU_skip (by rfl) ?_; simp only [Act.put, List.setIfInBounds_toArray, List.set_cons_zero, List.set_cons_succ]) | (refine Lex.lexU_still (by rfl) (by rfl) (by first | exact Base.Ext.refl | exact Lex.Fill.refl) ?_; apply Exists.intro; refine ⟨fun W hW => ?_, ?_⟩; (have hE := Lex.ext_of_cls hW.1; have hE2 := Lex.ext_drew hE; clear hW; go_simp; try with_reducible rfl); simp only [Act.put, List.setIfInBounds_toArray, List.set_cons_zero, List.set_cons_succ]))
        refine Lex.lexU_loose (by rfl) (by rfl) (fun W hW => ?_) ?_
        · clear hW
          go_simp
          refine (ahead_calls x y _).mono ?_
          rintro e w9 ⟨rfl, he9⟩
          exact ⟨_, rfl, rfl, he9, trivial⟩
        rintro v rfl
        simp only [Act.put, List.setIfInBounds_toArray, List.set_cons_zero, List.set_cons_succ]
        repeat (first | (refine Lex.lexU_skip (by rfl) ?_; simp only [Act.put, List.setIfInBounds_toArray, List.set_cons_zero, List.set_cons_succ]) | (refine Lex.lexU_still (by rfl) (by rfl) (by first | exact Base.Ext.refl | exact Lex.Fill.refl) ?_; apply Exists.intro; refine ⟨fun W hW => ?_, ?_⟩; (have hE := Lex.ext_of_cls hW.1; have hE2 := Lex.ext_drew hE; clear hW; go_simp; try with_reducible rfl); simp only [Act.put, List.setIfInBounds_toArray, List.set_cons_zero, List.set_cons_succ]))
        refine Lex.lexU_nil (fun W hW => ?_)
        have hE := Lib.hid (Lex.ext_drew hW.1)
        clear hW q0 k0 k1 k2 p0 p1 p2
        refine Lex.onlyN_intro ?_
        obtain ⟨r, hr⟩ : ∃ r, r = UrgP.ahead x y := ⟨_, rfl⟩
        rw [← hr]
        have HR := Lib.hid hr
        clear hr
        have hpc : par c = k := by show (c - 1) / 2 = k; omega
        cases r with
        | false =>
          go_wp2_with fail
          go_roundg (2 * k + 3 - (c + 1))
          case measure => omega
          case rel =>
            refine ⟨b, c + 1, rfl, by first | rfl | go_num, Nat.le_refl _, Lib.hid (HX.out.ext hE.out), Lib.hid ⟨by omega, by omega, hb, fun d d1 d2 d3 => ?_, HL.out.self⟩⟩
            by_cases hdc : d = c
            · subst hdc
              rw [← HA.out.1, ← HA.out.2]
              exact HR.out.symm
            · exact HL.out.all d d1 (by omega) d3
        | true =>
          go_wp2_with fail
          go_roundg (2 * k + 3 - (c + 1))
          case measure => omega
          case rel =>
            have hcb : UrgP.ahead (at_ lk c) (at_ lk b) = true := by rw [← HA.out.1, ← HA.out.2]; exact HR.out.symm
            refine ⟨c, c + 1, rfl, by first | rfl | go_num, Nat.le_refl _, Lib.hid (HX.out.ext hE.out), Lib.hid ⟨by omega, by omega, h2, fun d d1 d2 d3 => ?_, .inr ⟨hpc, by omega, ?_⟩⟩⟩
            · by_cases hdc : d = c
              · subst hdc
                exact irrefl _
              · exact ntrans (HL.out.all d d1 (by omega) d3) (asym hcb)
            · rcases HL.out.self with h5 | ⟨_, _, h5⟩
              · rw [← h5]; exact hcb
              · exact UrgP.trans hcb h5
      · have hch : ∀ d, 0 < d → d < lk.length → par d = k → UrgP.ahead (at_ lk d) (at_ lk b) = false := fun d d0 d1 d2 => by
          have d3 : (d - 1) / 2 = k := d2
          exact HL.out.all d (by omega) (by omega) d1
        have HCH := Lib.hid hch
        clear hch
        obtain ⟨g, cc, q0, _⟩ := HX.out.q.cells hb
        have hout : ¬ ((c : Int) ≤ 2 * (k : Int) + 2) ∨ ((c : Int) ≤ 2 * (k : Int) + 2 ∧ ¬ ((c : Int) < lk.length)) := by omega
        have hcc : 2 * k + 3 ≤ c ∨ lk.length ≤ c := by omega
        by_cases hbk : b = k
        · subst hbk
          rcases hout with h1 | ⟨h1, h2⟩
          all_goals
            go_wp2_with fail
            refine bodyPost_ret (results_none rfl _ _ _) rfl ?_
            exact ⟨rfl, lk, HX.out.q, HX.out.perm, HW.out.2.stop fun d d0 d1 d2 => by show UrgP.ahead (at_ lk d) (at_ lk (par d)) = false; rw [d2]; exact HCH.out d d0 d1 d2, HX.out.chg⟩
        · have hself : par b = k ∧ 0 < b ∧ UrgP.ahead (at_ lk b) (at_ lk k) = true := HL.out.self.resolve_left hbk
          have HS := Lib.hid hself
          have hbi : ¬ (b : Int) = k := by omega
          clear hself
          rcases hout with h1 | ⟨h1, h2⟩
          all_goals
            go_wp2_with fail
            refine (swap_calls S gq gm lk k b wr HX.out.q hkl hb (Ne.symm hbk) (by have := HLN.out; omega)).mono ?_
            rintro e w5 ⟨rfl, hq5, hc5⟩
            have HQ5 := Lib.hid hq5
            have HC5 := Lib.hid hc5
            clear hq5 hc5
            go_wp2_with fail
            go_roundg (l.length - b)
            case measure => have := HS.out.1; have h2 : (b - 1) / 2 = k := this; have := HLN.out; omega
            case rel =>
              refine ⟨b, swp lk k b, rfl, Nat.le_refl _, Lib.hid ⟨⟨HQ5.out, (swp_perm hkl hb).trans HX.out.perm, by rw [swp_len]; exact hb, ?_, HX.out.chg.trans HC5.out⟩, HW.out.2.step hb HS.out.2.1 HS.out.1 HS.out.2.2 HCH.out⟩⟩
              rw [swp_at hkl hb hb, if_pos rfl, HX.out.job]
end Go.Proofs.Ytipmkddcdnbihaa.Urg
