/- The least distance of points, and their sum, walked. -/
import Derived.Test.YtaohnialheccdaaSitePts
import Derived.Test.YtaohnialheccdaaSiteN
import Derived.Test.YtaohnialheccdaaFill
import Derived.Deep.QuietTactic
import Derived.BigQuiet
namespace Go.Proofs.Ytaohnialheccdaa.SitePts
open Go.RowKit Base Step Vec Site Ref09
open SiteN (MinOf)
/-- How far two points lie from each other, squared. -/
def dist (p q : Int × Int) : Int := (p.1 - q.1) * (p.1 - q.1) + (p.2 - q.2) * (p.2 - q.2)
def at0 (ps : List (Int × Int)) (i : Nat) : Int × Int := ps.getD i (0, 0)
def dd (ps : List (Int × Int)) (i k : Nat) : Int := dist (at0 ps i) (at0 ps k)
theorem dist_bd {p q : Int × Int} (h1 : near p.1 ∧ near p.2) (h2 : near q.1 ∧ near q.2) : 0 ≤ dist p q ∧ dist p q ≤ 8796093022208 := by
  obtain ⟨⟨a1, a2⟩, a3, a4⟩ := h1
  obtain ⟨⟨b1, b2⟩, b3, b4⟩ := h2
  have s1 := sq (p.1 - q.1) (by omega) (by omega)
  have s2 := sq (p.2 - q.2) (by omega) (by omega)
  unfold dist
  omega
theorem dist_comm (p q : Int × Int) : dist p q = dist q p := by
  have e : ∀ x y : Int, (x - y) * (x - y) = (y - x) * (y - x) := fun x y => by rw [← Int.neg_sub y x, Int.neg_mul_neg]
  unfold dist
  rw [e p.1, e p.2]
theorem at0_of {ps : List (Int × Int)} {i : Nat} {p : Int × Int} (h : ps[i]? = some p) : at0 ps i = p := by unfold at0; rw [List.getD_eq_getElem?_getD, h]; rfl
/-- The program's points. -/
def Cx (w : World) (A : Option Addr) (ps : List (Int × Int)) : Prop := ∀ (i : Nat) (p : Int × Int), ps[i]? = some p → ∃ ad, A = some ad ∧ w.cell? (ad.add i) = some (cpx p)
theorem Cx.ext {w w' : World} {A : Option Addr} {ps : List (Int × Int)} (h : Cx w A ps) (he : Ext w w') : Cx w' A ps := fun i p hp => by
  obtain ⟨ad, h1, h2⟩ := h i p hp
  exact ⟨ad, h1, he.cell_ h2⟩
theorem cx_of {w : World} {S : Nat → Prop} {A : Option Addr} {n c : Nat} {ps : List (Int × Int)} (h : Own w S 31 1 (.slice A n c) n (ps.map cpx)) : Cx w A ps := fun i p hp => own_cell h (by rw [List.getElem?_map, hp]; rfl)
set_option maxRecDepth 100000 in
set_option maxHeartbeats 2000000 in
theorem spread_calls (A : Option Addr) (n c : Nat) (ps : List (Int × Int)) (w : World) (h : Cx w A ps) (hl : ps.length = n) (hn : n ≤ 60) (hr : ∀ p ∈ ps, near p.1 ∧ near p.2) :
    Calls Try.prog 61 #[.slice A n c] w fun e w' => Ext w w' ∧ ∃ b, e = .returned (.int .i64 b) ∧ MinOf (fun i k => k < i ∧ i < n) (dd ps) b := by
  have HR := Lib.hid hr
  clear hr
  go_enter Try.func61, Try.ntmps61
  go_wp2_with fail
  go_loopw [3, 4, 5, 6, 9] (fun best _ _ _ iv wr => ∃ (i : Nat) (b : Int), iv = .int .i64 i ∧ best = .int .i64 b ∧ i ≤ n ∧ -1 ≤ b ∧ b ≤ 8796093022208 ∧ Hid (MinOf (fun x y => y < x ∧ x < i) (dd ps) b) ∧ Ext w wr) (fun _ _ _ _ iv _ => n - (intOf iv).toNat)
  case atStart => exact ⟨0, -1, rfl, rfl, Nat.zero_le _, by omega, by omega, Lib.hid (MinOf.none fun i k h => by omega), Ext.refl _⟩
  case round =>
    obtain ⟨i, b, rfl, rfl, hi, hb0, hb1, HM, hx⟩ := hrel
    by_cases hlt : i < n
    · go_wp2_with fail
      obtain ⟨wo, hwo⟩ : ∃ wo : World, wo = wr := ⟨_, rfl⟩
      go_loopw [3, 5, 6, 13] (fun best _ _ kv wr2 => ∃ (k : Nat) (b2 : Int), kv = .int .i64 k ∧ best = .int .i64 b2 ∧ k ≤ i ∧ -1 ≤ b2 ∧ b2 ≤ 8796093022208 ∧ Hid (MinOf (fun x y => y < x ∧ (x < i ∨ (x = i ∧ y < k))) (dd ps) b2) ∧ Ext w wr2) (fun _ _ _ kv _ => i - (intOf kv).toNat)
      case atStart => exact ⟨0, b, rfl, rfl, Nat.zero_le _, hb0, hb1, Lib.hid (HM.out.iff fun x y => by constructor <;> intro h <;> omega), hx⟩
      case round =>
        clear HM hx hb0 hb1
        obtain ⟨k, b2, rfl, rfl, hk, hb0, hb1, HM, hx⟩ := hrel
        by_cases hlk : k < i
        · have hkn : (k : Int) < n := by omega
          obtain ⟨p, hp⟩ : ∃ p, ps[i]? = some p := ⟨_, List.getElem?_eq_getElem (by omega)⟩
          obtain ⟨q, hq⟩ : ∃ q, ps[k]? = some q := ⟨_, List.getElem?_eq_getElem (by omega)⟩
          obtain ⟨ad, rfl, x0⟩ := (h.ext hx) i p hp
          obtain ⟨ad', e', x1⟩ := (h.ext hx) k q hq
          cases e'
          have np := HR.out p (List.mem_of_getElem? hp)
          have nq := HR.out q (List.mem_of_getElem? hq)
          have hbd := dist_bd np nq
          have HFAR := Lib.hid fun W => far_calls (.complex .f64 (F p.1) (F p.2)) (.complex .f64 (F q.1) (F q.2)) p.1 p.2 q.1 q.2 W (pt_at np.1 np.2) (pt_at nq.1 nq.2) np.1 np.2 nq.1 nq.2
          have HD : Hid (dd ps i k = dist p q) := Lib.hid (by unfold dd; rw [at0_of hp, at0_of hq])
          unfold cpx at x0 x1
          generalize F p.1 = f1 at *
          generalize F p.2 = f2 at *
          generalize F q.1 = f3 at *
          generalize F q.2 = f4 at *
          rw [show (p.1 - q.1) * (p.1 - q.1) + (p.2 - q.2) * (p.2 - q.2) = dist p q from rfl] at HFAR
          generalize dist p q = dv at *
          obtain ⟨hd0, hd1⟩ := hbd
          have d0 : ∀ W, Ext wr W → W.cell? (ad.add i) = some (.complex .f64 f1 f2) := fun W hW => hW.cell_ x0
          have d1 : ∀ W, Ext wr W → W.cell? (ad.add k) = some (.complex .f64 f3 f4) := fun W hW => hW.cell_ x1
          clear x0 x1 np nq hp hq
          go_wp2_with fail
          refine Lex.wp_region_u [0, 1, 2, 3, 4, 5, 6, 7, 8, 9] [] [(8, .const (.int .i64 dv))] (by kernel_rfl) (by kernel_rfl) (by repeat (first | exact Lex.st_nil | refine Lex.st_cons (by first | exact Lex.nums_st | exact Lex.const_st | exact Lex.such_st | exact Lex.row_st | exact Lex.rowE_st | exact Lex.litR_st | assumption) ?_)) ?_; simp only [Lex.pick, List.getElem?_cons_succ, List.getElem?_cons_zero, List.map_cons, List.map_nil]
          repeat (first | (refine Lex.lexU_skip (by rfl) ?_; simp only [Act.put, List.setIfInBounds_toArray, List.set_cons_zero, List.set_cons_succ]) | (refine Lex.lexU_still (by rfl) (by rfl) (by first | exact Base.Ext.refl | exact Lex.Fill.refl) ?_; apply Exists.intro; refine ⟨fun W hW => ?_, ?_⟩; (have hE := Lex.ext_of_cls hW.1; have hE2 := Lex.ext_drew hE; clear hW; go_simp; try with_reducible rfl); simp only [Act.put, List.setIfInBounds_toArray, List.set_cons_zero, List.set_cons_succ]))
          refine Lex.lexU_loose (by rfl) (by rfl) (fun W hW => ?_) ?_
          · go_simp
            refine (HFAR.out _).mono ?_
            rintro e w5 ⟨rfl, rfl⟩
            exact ⟨_, rfl, rfl, Ext.refl _, trivial⟩
          rintro v rfl
          simp only [Act.put, List.setIfInBounds_toArray, List.set_cons_zero, List.set_cons_succ]
          repeat (first | (refine Lex.lexU_skip (by rfl) ?_; simp only [Act.put, List.setIfInBounds_toArray, List.set_cons_zero, List.set_cons_succ]) | (refine Lex.lexU_still (by rfl) (by rfl) (by first | exact Base.Ext.refl | exact Lex.Fill.refl) ?_; apply Exists.intro; refine ⟨fun W hW => ?_, ?_⟩; (have hE := Lex.ext_of_cls hW.1; have hE2 := Lex.ext_drew hE; clear hW; go_simp; try with_reducible rfl); simp only [Act.put, List.setIfInBounds_toArray, List.set_cons_zero, List.set_cons_succ]))
          refine Lex.lexU_nil (fun W hW => ?_)
          have hE := hx.trans (Lex.ext_drew (Lex.ext_of_cls hW.1))
          clear hW d0 d1 hx
          refine Lex.onlyN_intro ?_
          by_cases hb : b2 < 0 ∨ dv < b2
          · have HM2 : Hid (MinOf (fun x y => y < x ∧ (x < i ∨ (x = i ∧ y < k + 1))) (dd ps) dv) := Lib.hid (by
              rw [← HD.out]
              exact HM.out.take (i := i) (k := k) (by rw [HD.out]; exact hd0) (fun x y => by constructor <;> intro h <;> omega) (by rw [HD.out]; exact hb))
            clear HM HD
            by_cases hb2 : b2 < 0
            · clear hb
              go_wp2_with fail
              go_roundw
              case rel => exact ⟨k + 1, dv, by go_num, rfl, by omega, by omega, hd1, HM2, hE⟩
              case measure => simp [intOf]; omega
            · have hb3 : dv < b2 := by omega
              clear hb
              go_wp2_with fail
              go_roundw
              case rel => exact ⟨k + 1, dv, by go_num, rfl, by omega, by omega, hd1, HM2, hE⟩
              case measure => simp [intOf]; omega
          · have hb3 : 0 ≤ b2 := by omega
            have hb4 : b2 ≤ dv := by omega
            have HM2 : Hid (MinOf (fun x y => y < x ∧ (x < i ∨ (x = i ∧ y < k + 1))) (dd ps) b2) := Lib.hid (HM.out.keep (i := i) (k := k) (fun x y => by constructor <;> intro h <;> omega) ⟨hb3, by rw [HD.out]; exact hb4⟩)
            clear hb HM HD
            go_wp2_with fail
            go_roundw
            case rel => exact ⟨k + 1, b2, by go_num, rfl, by omega, by omega, hb1, HM2, hE⟩
            case measure => simp [intOf]; omega
        · obtain rfl : k = i := by omega
          have HM2 : Hid (MinOf (fun x y => y < x ∧ x < k + 1) (dd ps) b2) := Lib.hid (HM.out.iff fun x y => by constructor <;> intro h <;> omega)
          clear HM
          go_wp2_with fail
          go_roundw
          case rel => exact ⟨k + 1, b2, by go_num, rfl, by omega, hb0, hb1, HM2, hx⟩
          case measure => simp [intOf]; omega
    · obtain rfl : i = n := by omega
      go_wp2_with fail
      go_ret
      exact ⟨hx, b, rfl, HM.out⟩
set_option maxRecDepth 100000 in
set_option maxHeartbeats 4000000 in
theorem rspread_calls (A : Option Addr) (n c : Nat) (ps : List (Int × Int)) (w : World) (h : Pts w A n ps) (hn : n ≤ 60) (hr : ∀ p ∈ ps, near p.1 ∧ near p.2) :
    Calls Try.prog 62 #[.slice A n c] w fun e w' => Ext w w' ∧ ∃ b, e = .returned (.int .i64 b) ∧ MinOf (fun i k => i < k ∧ k < n) (dd ps) b := by
  have HR := Lib.hid hr
  have hl := h.len
  clear hr
  go_enter Try.func62, Try.ntmps62
  go_wp2_with fail
  go_loopw [3, 4, 5] (fun best iv _ wr => ∃ (i : Nat) (b : Int), iv = .int .i64 i ∧ best = .int .i64 b ∧ i ≤ n ∧ -1 ≤ b ∧ b ≤ 8796093022208 ∧ Hid (MinOf (fun x y => x < y ∧ y < n ∧ x < i) (dd ps) b) ∧ Ext w wr) (fun _ iv _ _ => n - (intOf iv).toNat)
  case atStart => exact ⟨0, -1, rfl, rfl, Nat.zero_le _, by omega, by omega, Lib.hid (MinOf.none fun i k h => by omega), Ext.refl _⟩
  case round =>
    obtain ⟨i, b, rfl, rfl, hi, hb0, hb1, HM, hx⟩ := hrel
    by_cases hlt : i < n
    · go_wp2_with fail
      obtain ⟨wo, hwo⟩ : ∃ wo : World, wo = wr := ⟨_, rfl⟩
      clear hwo
      go_loopw [3, 5] (fun best kv wr2 => ∃ (k : Nat) (b2 : Int), kv = .int .i64 k ∧ best = .int .i64 b2 ∧ i + 1 ≤ k ∧ k ≤ n ∧ -1 ≤ b2 ∧ b2 ≤ 8796093022208 ∧ Hid (MinOf (fun x y => x < y ∧ y < n ∧ (x < i ∨ (x = i ∧ y < k))) (dd ps) b2) ∧ Ext w wr2) (fun _ kv _ => n - (intOf kv).toNat)
      case atStart => exact ⟨i + 1, b, by go_num, rfl, by omega, by omega, hb0, hb1, Lib.hid (HM.out.iff fun x y => by constructor <;> intro h <;> omega), hx⟩
      case round =>
        clear HM hx hb0 hb1
        obtain ⟨k, b2, rfl, rfl, hk0, hk, hb0, hb1, HM, hx⟩ := hrel
        by_cases hlk : k < n
        · have hin : (i : Int) < n := by omega
          obtain ⟨p, hp⟩ : ∃ p, ps[i]? = some p := ⟨_, List.getElem?_eq_getElem (by omega)⟩
          obtain ⟨q, hq⟩ : ∃ q, ps[k]? = some q := ⟨_, List.getElem?_eq_getElem (by omega)⟩
          obtain ⟨ad, rfl, x0, x1⟩ := (h.ext hx).at_ i p hp
          obtain ⟨ad', e', y0, y1⟩ := (h.ext hx).at_ k q hq
          cases e'
          have np := HR.out p (List.mem_of_getElem? hp)
          have nq := HR.out q (List.mem_of_getElem? hq)
          have hbd := dist_bd np nq
          have HFAR := Lib.hid fun W => Ref09.far_calls p.1 p.2 q.1 q.2 W np.1 np.2 nq.1 nq.2
          have HD : Hid (dd ps i k = dist p q) := Lib.hid (by unfold dd; rw [at0_of hp, at0_of hq])
          rw [show (p.1 - q.1) * (p.1 - q.1) + (p.2 - q.2) * (p.2 - q.2) = dist p q from rfl] at HFAR
          generalize dist p q = dv at *
          obtain ⟨hd0, hd1⟩ := hbd
          clear np nq hp hq
          generalize p.1 = p1 at *
          generalize p.2 = p2 at *
          generalize q.1 = q1 at *
          generalize q.2 = q2 at *
          have d0 : ∀ W, Ext wr W → W.cell? (ad.add (i * 2)) = some (.int .i64 p1) := fun W hW => hW.cell_ x0
          have d1 : ∀ W, Ext wr W → W.cell? ⟨(ad.add (i * 2)).block, (ad.add (i * 2)).off + 1, none⟩ = some (.int .i64 p2) := fun W hW => hW.cell_ x1
          have d2 : ∀ W, Ext wr W → W.cell? (ad.add (k * 2)) = some (.int .i64 q1) := fun W hW => hW.cell_ y0
          have d3 : ∀ W, Ext wr W → W.cell? ⟨(ad.add (k * 2)).block, (ad.add (k * 2)).off + 1, none⟩ = some (.int .i64 q2) := fun W hW => hW.cell_ y1
          clear x0 x1 y0 y1
          by_cases hb : b2 < 0 ∨ dv < b2
          · have HM2 : Hid (MinOf (fun x y => x < y ∧ y < n ∧ (x < i ∨ (x = i ∧ y < k + 1))) (dd ps) dv) := Lib.hid (by
              rw [← HD.out]
              exact HM.out.take (i := i) (k := k) (by rw [HD.out]; exact hd0) (fun x y => by constructor <;> intro h <;> omega) (by rw [HD.out]; exact hb))
            clear HM HD
            by_cases hb2 : b2 < 0
            · clear hb
              have hbt : decide (b2 < 0) = true := by simpa using hb2
              go_wp2_with fail
              go_quiet (fail)
              go_wp2_with fail
              have hX : Ext wr (wr.drewN nq) := (Ext.refl wr).drewN nq
              have hE1 := hx.trans hX
              have d0' : ∀ W, Ext (wr.drewN nq) W → W.cell? (ad.add (i * 2)) = some (.int .i64 p1) := fun W hW => d0 W (hX.trans hW)
              have d1' : ∀ W, Ext (wr.drewN nq) W → W.cell? ⟨(ad.add (i * 2)).block, (ad.add (i * 2)).off + 1, none⟩ = some (.int .i64 p2) := fun W hW => d1 W (hX.trans hW)
              have d2' : ∀ W, Ext (wr.drewN nq) W → W.cell? (ad.add (k * 2)) = some (.int .i64 q1) := fun W hW => d2 W (hX.trans hW)
              have d3' : ∀ W, Ext (wr.drewN nq) W → W.cell? ⟨(ad.add (k * 2)).block, (ad.add (k * 2)).off + 1, none⟩ = some (.int .i64 q2) := fun W hW => d3 W (hX.trans hW)
              clear d0 d1 d2 d3 hX hx
              refine Lex.wp_region_u [0, 1, 2, 3, 4, 5, 6, 7, 8, 9] [] [(8, .const (.int .i64 dv))] (by kernel_rfl) (by kernel_rfl) (by repeat (first | exact Lex.st_nil | refine Lex.st_cons (by first | exact Lex.nums_st | exact Lex.const_st | exact Lex.such_st | exact Lex.row_st | exact Lex.rowE_st | exact Lex.litR_st | assumption) ?_)) ?_; simp only [Lex.pick, List.getElem?_cons_succ, List.getElem?_cons_zero, List.map_cons, List.map_nil]
              repeat (first | (refine Lex.lexU_skip (by rfl) ?_; simp only [Act.put, List.setIfInBounds_toArray, List.set_cons_zero, List.set_cons_succ]) | (refine Lex.lexU_still (by rfl) (by rfl) (by first | exact Base.Ext.refl | exact Lex.Fill.refl) ?_; apply Exists.intro; refine ⟨fun W hW => ?_, ?_⟩; (have hE := Lex.ext_of_cls hW.1; have hE2 := Lex.ext_drew hE; clear hW; go_simp; try with_reducible rfl); simp only [Act.put, List.setIfInBounds_toArray, List.set_cons_zero, List.set_cons_succ]))
              refine Lex.lexU_loose (by rfl) (by rfl) (fun W hW => ?_) ?_
              · go_simp
                refine (HFAR.out _).mono ?_
                rintro e w5 ⟨rfl, he5⟩
                exact ⟨_, rfl, rfl, he5, trivial⟩
              rintro v rfl
              simp only [Act.put, List.setIfInBounds_toArray, List.set_cons_zero, List.set_cons_succ]
              repeat (first | (refine Lex.lexU_skip (by rfl) ?_; simp only [Act.put, List.setIfInBounds_toArray, List.set_cons_zero, List.set_cons_succ]) | (refine Lex.lexU_still (by rfl) (by rfl) (by first | exact Base.Ext.refl | exact Lex.Fill.refl) ?_; apply Exists.intro; refine ⟨fun W hW => ?_, ?_⟩; (have hE := Lex.ext_of_cls hW.1; have hE2 := Lex.ext_drew hE; clear hW; go_simp; try with_reducible rfl); simp only [Act.put, List.setIfInBounds_toArray, List.set_cons_zero, List.set_cons_succ]))
              refine Lex.lexU_nil (fun W hW => ?_)
              have hE := hE1.trans (Lex.ext_drew (Lex.ext_of_cls hW.1))
              clear hW
              refine Lex.onlyN_intro ?_
              go_wp2_with fail
              go_roundw
              case rel => exact ⟨k + 1, dv, by go_num, rfl, by omega, by omega, by omega, hd1, HM2, hE⟩
              case measure => simp [intOf]; omega
            · have hb3 : dv < b2 := by omega
              have hbf : decide (b2 < 0) = false := by simpa using hb2
              clear hb
              go_wp2_with fail
              refine Lex.wp_region_u [0, 1, 2, 3, 4, 5, 6, 7, 8, 9, 10, 11, 12, 13, 14] [] [(11, .const (.int .i64 dv))] (by kernel_rfl) (by kernel_rfl) (by repeat (first | exact Lex.st_nil | refine Lex.st_cons (by first | exact Lex.nums_st | exact Lex.const_st | exact Lex.such_st | exact Lex.row_st | exact Lex.rowE_st | exact Lex.litR_st | assumption) ?_)) ?_; simp only [Lex.pick, List.getElem?_cons_succ, List.getElem?_cons_zero, List.map_cons, List.map_nil]
              repeat (first | (refine Lex.lexU_skip (by rfl) ?_; simp only [Act.put, List.setIfInBounds_toArray, List.set_cons_zero, List.set_cons_succ]) | (refine Lex.lexU_still (by rfl) (by rfl) (by first | exact Base.Ext.refl | exact Lex.Fill.refl) ?_; apply Exists.intro; refine ⟨fun W hW => ?_, ?_⟩; (have hE := Lex.ext_of_cls hW.1; have hE2 := Lex.ext_drew hE; clear hW; go_simp; try with_reducible rfl); simp only [Act.put, List.setIfInBounds_toArray, List.set_cons_zero, List.set_cons_succ]))
              refine Lex.lexU_loose (by rfl) (by rfl) (fun W hW => ?_) ?_
              · go_simp
                refine (HFAR.out _).mono ?_
                rintro e w5 ⟨rfl, he5⟩
                exact ⟨_, rfl, rfl, he5, trivial⟩
              rintro v rfl
              simp only [Act.put, List.setIfInBounds_toArray, List.set_cons_zero, List.set_cons_succ]
              repeat (first | (refine Lex.lexU_skip (by rfl) ?_; simp only [Act.put, List.setIfInBounds_toArray, List.set_cons_zero, List.set_cons_succ]) | (refine Lex.lexU_still (by rfl) (by rfl) (by first | exact Base.Ext.refl | exact Lex.Fill.refl) ?_; apply Exists.intro; refine ⟨fun W hW => ?_, ?_⟩; (have hE := Lex.ext_of_cls hW.1; have hE2 := Lex.ext_drew hE; clear hW; go_simp; try with_reducible rfl); simp only [Act.put, List.setIfInBounds_toArray, List.set_cons_zero, List.set_cons_succ]))
              refine Lex.lexU_nil (fun W hW => ?_)
              have hX := Lex.ext_drew (Lex.ext_of_cls hW.1)
              have hE1 := hx.trans hX
              clear hW
              refine Lex.onlyN_intro ?_
              go_wp2_with fail
              have d0' : ∀ W', Ext W W' → W'.cell? (ad.add (i * 2)) = some (.int .i64 p1) := fun W' hW => d0 W' (hX.trans hW)
              have d1' : ∀ W', Ext W W' → W'.cell? ⟨(ad.add (i * 2)).block, (ad.add (i * 2)).off + 1, none⟩ = some (.int .i64 p2) := fun W' hW => d1 W' (hX.trans hW)
              have d2' : ∀ W', Ext W W' → W'.cell? (ad.add (k * 2)) = some (.int .i64 q1) := fun W' hW => d2 W' (hX.trans hW)
              have d3' : ∀ W', Ext W W' → W'.cell? ⟨(ad.add (k * 2)).block, (ad.add (k * 2)).off + 1, none⟩ = some (.int .i64 q2) := fun W' hW => d3 W' (hX.trans hW)
              clear d0 d1 d2 d3 hX hx
              refine Lex.wp_region_u [0, 1, 2, 3, 4, 5, 6, 7, 8, 9] [] [(8, .const (.int .i64 dv))] (by kernel_rfl) (by kernel_rfl) (by repeat (first | exact Lex.st_nil | refine Lex.st_cons (by first | exact Lex.nums_st | exact Lex.const_st | exact Lex.such_st | exact Lex.row_st | exact Lex.rowE_st | exact Lex.litR_st | assumption) ?_)) ?_; simp only [Lex.pick, List.getElem?_cons_succ, List.getElem?_cons_zero, List.map_cons, List.map_nil]
              repeat (first | (refine Lex.lexU_skip (by rfl) ?_; simp only [Act.put, List.setIfInBounds_toArray, List.set_cons_zero, List.set_cons_succ]) | (refine Lex.lexU_still (by rfl) (by rfl) (by first | exact Base.Ext.refl | exact Lex.Fill.refl) ?_; apply Exists.intro; refine ⟨fun W hW => ?_, ?_⟩; (have hE := Lex.ext_of_cls hW.1; have hE2 := Lex.ext_drew hE; clear hW; go_simp; try with_reducible rfl); simp only [Act.put, List.setIfInBounds_toArray, List.set_cons_zero, List.set_cons_succ]))
              refine Lex.lexU_loose (by rfl) (by rfl) (fun W hW => ?_) ?_
              · go_simp
                refine (HFAR.out _).mono ?_
                rintro e w5 ⟨rfl, he5⟩
                exact ⟨_, rfl, rfl, he5, trivial⟩
              rintro v rfl
              simp only [Act.put, List.setIfInBounds_toArray, List.set_cons_zero, List.set_cons_succ]
              repeat (first | (refine Lex.lexU_skip (by rfl) ?_; simp only [Act.put, List.setIfInBounds_toArray, List.set_cons_zero, List.set_cons_succ]) | (refine Lex.lexU_still (by rfl) (by rfl) (by first | exact Base.Ext.refl | exact Lex.Fill.refl) ?_; apply Exists.intro; refine ⟨fun W hW => ?_, ?_⟩; (have hE := Lex.ext_of_cls hW.1; have hE2 := Lex.ext_drew hE; clear hW; go_simp; try with_reducible rfl); simp only [Act.put, List.setIfInBounds_toArray, List.set_cons_zero, List.set_cons_succ]))
              refine Lex.lexU_nil (fun W hW => ?_)
              have hE := hE1.trans (Lex.ext_drew (Lex.ext_of_cls hW.1))
              clear hW
              refine Lex.onlyN_intro ?_
              go_wp2_with fail
              go_roundw
              case rel => exact ⟨k + 1, dv, by go_num, rfl, by omega, by omega, by omega, hd1, HM2, hE⟩
              case measure => simp [intOf]; omega
          · have hb3 : 0 ≤ b2 := by omega
            have hb4 : b2 ≤ dv := by omega
            have hbf : decide (b2 < 0) = false := by simp; omega
            have HM2 : Hid (MinOf (fun x y => x < y ∧ y < n ∧ (x < i ∨ (x = i ∧ y < k + 1))) (dd ps) b2) := Lib.hid (HM.out.keep (i := i) (k := k) (fun x y => by constructor <;> intro h <;> omega) ⟨hb3, by rw [HD.out]; exact hb4⟩)
            clear hb HM HD
            go_wp2_with fail
            refine Lex.wp_region_u [0, 1, 2, 3, 4, 5, 6, 7, 8, 9, 10, 11, 12, 13, 14] [] [(11, .const (.int .i64 dv))] (by kernel_rfl) (by kernel_rfl) (by repeat (first | exact Lex.st_nil | refine Lex.st_cons (by first | exact Lex.nums_st | exact Lex.const_st | exact Lex.such_st | exact Lex.row_st | exact Lex.rowE_st | exact Lex.litR_st | assumption) ?_)) ?_; simp only [Lex.pick, List.getElem?_cons_succ, List.getElem?_cons_zero, List.map_cons, List.map_nil]
            repeat (first | (refine Lex.lexU_skip (by rfl) ?_; simp only [Act.put, List.setIfInBounds_toArray, List.set_cons_zero, List.set_cons_succ]) | (refine Lex.lexU_still (by rfl) (by rfl) (by first | exact Base.Ext.refl | exact Lex.Fill.refl) ?_; apply Exists.intro; refine ⟨fun W hW => ?_, ?_⟩; (have hE := Lex.ext_of_cls hW.1; have hE2 := Lex.ext_drew hE; clear hW; go_simp; try with_reducible rfl); simp only [Act.put, List.setIfInBounds_toArray, List.set_cons_zero, List.set_cons_succ]))
            refine Lex.lexU_loose (by rfl) (by rfl) (fun W hW => ?_) ?_
            · go_simp
              refine (HFAR.out _).mono ?_
              rintro e w5 ⟨rfl, he5⟩
              exact ⟨_, rfl, rfl, he5, trivial⟩
            rintro v rfl
            simp only [Act.put, List.setIfInBounds_toArray, List.set_cons_zero, List.set_cons_succ]
            repeat (first | (refine Lex.lexU_skip (by rfl) ?_; simp only [Act.put, List.setIfInBounds_toArray, List.set_cons_zero, List.set_cons_succ]) | (refine Lex.lexU_still (by rfl) (by rfl) (by first | exact Base.Ext.refl | exact Lex.Fill.refl) ?_; apply Exists.intro; refine ⟨fun W hW => ?_, ?_⟩; (have hE := Lex.ext_of_cls hW.1; have hE2 := Lex.ext_drew hE; clear hW; go_simp; try with_reducible rfl); simp only [Act.put, List.setIfInBounds_toArray, List.set_cons_zero, List.set_cons_succ]))
            refine Lex.lexU_nil (fun W hW => ?_)
            have hX := Lex.ext_drew (Lex.ext_of_cls hW.1)
            have hE1 := hx.trans hX
            clear hW
            refine Lex.onlyN_intro ?_
            go_wp2_with fail
            go_roundw
            case rel => exact ⟨k + 1, b2, by go_num, rfl, by omega, by omega, by omega, hb1, HM2, hE1⟩
            case measure => simp [intOf]; omega
        · obtain rfl : k = n := by omega
          have HM2 : Hid (MinOf (fun x y => x < y ∧ y < k ∧ x < i + 1) (dd ps) b2) := Lib.hid (HM.out.iff fun x y => by constructor <;> intro h <;> omega)
          clear HM
          go_wp2_with fail
          go_roundw
          case rel => exact ⟨i + 1, b2, by go_num, rfl, by omega, hb0, hb1, HM2, hx⟩
          case measure => simp [intOf]; omega
    · obtain rfl : i = n := by omega
      have HM2 : Hid (MinOf (fun x y => x < y ∧ y < i) (dd ps) b) := Lib.hid (HM.out.iff fun x y => by constructor <;> intro h <;> omega)
      go_wp2_with fail
      go_ret
      exact ⟨hx, b, rfl, HM2.out⟩
end Go.Proofs.Ytaohnialheccdaa.SitePts
