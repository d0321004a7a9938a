/- Points added, and the nearest first, walked: the program's. -/
import Derived.Test.YtaohnialheccdaaSiteSp
import Derived.Test.YtaohnialheccdaaInsert
namespace Go.Proofs.Ytaohnialheccdaa.SitePts
open Go.RowKit Base Step Vec Site Ref09
def sx : List (Int × Int) → Int
  | [] => 0
  | p :: l => p.1 + sx l
def sy : List (Int × Int) → Int
  | [] => 0
  | p :: l => p.2 + sy l
theorem sx_snoc : ∀ (l : List (Int × Int)) (p : Int × Int), sx (l ++ [p]) = sx l + p.1
  | [], p => by simp [sx]
  | q :: l, p => by simp only [List.cons_append, sx, sx_snoc l p]; omega
theorem sy_snoc : ∀ (l : List (Int × Int)) (p : Int × Int), sy (l ++ [p]) = sy l + p.2
  | [], p => by simp [sy]
  | q :: l, p => by simp only [List.cons_append, sy, sy_snoc l p]; omega
theorem sum_bd : ∀ (l : List (Int × Int)), (∀ p ∈ l, near p.1 ∧ near p.2) → -(1048576 * (l.length : Int)) ≤ sx l ∧ sx l ≤ 1048576 * (l.length : Int) ∧ -(1048576 * (l.length : Int)) ≤ sy l ∧ sy l ≤ 1048576 * (l.length : Int)
  | [], _ => by simp [sx, sy]
  | p :: l, h => by
    have h1 := sum_bd l fun q hq => h q (List.mem_cons_of_mem _ hq)
    obtain ⟨⟨a1, a2⟩, a3, a4⟩ := h p List.mem_cons_self
    simp only [sx, sy, List.length_cons]
    omega
theorem take_snoc {ps : List (Int × Int)} {k : Nat} {p : Int × Int} (h : ps[k]? = some p) : ps.take (k + 1) = ps.take k ++ [p] := by
  have hg := List.getElem?_eq_some_iff.1 h
  rw [List.take_succ_eq_append_getElem hg.1, hg.2]
set_option maxRecDepth 100000 in
set_option maxHeartbeats 2000000 in
theorem mid_calls (A : Option Addr) (n c : Nat) (ps : List (Int × Int)) (w : World) (h : Cx w A ps) (hl : ps.length = n) (hn : n ≤ 60) (hr : ∀ p ∈ ps, near p.1 ∧ near p.2) :
    Calls Try.prog 63 #[.slice A n c] w fun e w' => Ext w w' ∧ ∃ v, e = .returned v ∧ Pt v (sx ps) (sy ps) := by
  have HR := Lib.hid hr
  clear hr
  go_enter Try.func63, Try.ntmps63
  go_wp2_with fail
  go_loopw [3, 5, 8] (fun vv _ iv wr => ∃ (i : Nat) (v : Value), iv = .int .i64 i ∧ vv = v ∧ i ≤ n ∧ Hid (Pt v (sx (ps.take i)) (sy (ps.take i))) ∧ Ext w wr) (fun _ _ iv _ => n - (intOf iv).toNat)
  case atStart => exact ⟨0, _, rfl, rfl, Nat.zero_le _, Lib.hid ⟨0, 0, rfl, null_is, null_is⟩, Ext.refl _⟩
  case round =>
    obtain ⟨i, v, rfl, rfl, hi, HPT, hx⟩ := hrel
    by_cases hlt : i < n
    · obtain ⟨p, hp⟩ : ∃ p, ps[i]? = some p := ⟨_, List.getElem?_eq_getElem (by omega)⟩
      obtain ⟨ad, rfl, x0⟩ := (h.ext hx) i p hp
      have np := HR.out p (List.mem_of_getElem? hp)
      have hbd := sum_bd (ps.take i) fun q hq => HR.out q (List.mem_of_mem_take hq)
      have htl : ((ps.take i).length : Int) = i := by rw [List.length_take]; omega
      rw [htl] at hbd
      obtain ⟨a, b, rfl, ha, hb⟩ := HPT.out
      obtain ⟨q1, q2, q3, q4⟩ := hbd
      obtain ⟨⟨m1, m2⟩, m3, m4⟩ := np
      obtain ⟨r, hr, hr1⟩ := Float.add_is ha (near_is ⟨m1, m2⟩) (by omega)
      obtain ⟨s, hs, hs1⟩ := Float.add_is hb (near_is ⟨m3, m4⟩) (by omega)
      have HS : Hid (Pt (.complex .f64 r s) (sx (ps.take (i + 1))) (sy (ps.take (i + 1)))) := Lib.hid ⟨r, s, rfl, by rw [take_snoc hp, sx_snoc]; exact hr1, by rw [take_snoc hp, sy_snoc]; exact hs1⟩
      unfold cpx at x0
      generalize F p.1 = f1 at *
      generalize F p.2 = f2 at *
      have hsum : cSumBits .add .f64 a b f1 f2 = some (r, s) := by unfold cSumBits; rw [hr, hs]; rfl
      have c1 := fun W => run_complex_sum (P := Try.prog) W .add (.inl rfl) 31 .f64 a b f1 f2 r s hsum
      clear hsum hr hs hr1 hs1 ha hb hp HPT m1 m2 m3 m4 q1 q2 q3 q4 htl
      go_wp2_with fail
      go_roundw
      case rel => exact ⟨i + 1, _, by go_num, rfl, by omega, HS, hx⟩
      case measure => simp [intOf]; omega
    · obtain rfl : i = n := by omega
      have hpt := HPT.out
      rw [List.take_of_length_le (by omega)] at hpt
      have HQ := Lib.hid hpt
      clear hpt
      go_wp2_with fail
      go_ret
      exact ⟨hx, _, rfl, HQ.out⟩
def dk (f : Int × Int) (ps : List (Int × Int)) (i : Nat) : Int := dist f (at0 ps i)
def places (l : List Nat) : List Int := l.map fun (i : Nat) => (i : Int)
/-- What the nearest come to: places in order. -/
def InOrder (f : Int × Int) (ps : List (Int × Int)) (m : Nat) (l : List Nat) : Prop := l.Pairwise (SiteN.lt (dk f ps)) ∧ (∀ x, x ∈ l ↔ x < m) ∧ l.length = m
set_option maxRecDepth 100000 in
set_option maxHeartbeats 4000000 in
theorem near_calls (f : Int × Int) (A : Option Addr) (n c : Nat) (ps : List (Int × Int)) (w : World) (h : Cx w A ps) (hl : ps.length = n) (hn : n ≤ 60) (hf : near f.1 ∧ near f.2) (hr : ∀ p ∈ ps, near p.1 ∧ near p.2) :
    Calls Try.prog 59 #[cpx f, .slice A n c] w fun e w' => Ext w w' ∧ ∃ A' c' l, e = .returned (.slice A' n c') ∧ New w w' 3 1 A' n c' (nums .i64 (places l)) ∧ InOrder f ps n l := by
  have HR := Lib.hid hr
  clear hr
  have HFF := Lib.hid (rfl : cpx f = .complex .f64 (F f.1) (F f.2))
  obtain ⟨g1, hg1⟩ : ∃ g, F f.1 = g := ⟨_, rfl⟩
  obtain ⟨g2, hg2⟩ : ∃ g, F f.2 = g := ⟨_, rfl⟩
  have HPF : Hid (Pt (.complex .f64 g1 g2) f.1 f.2) := Lib.hid (by rw [← hg1, ← hg2]; exact pt_at hf.1 hf.2)
  rw [show cpx f = .complex .f64 g1 g2 by rw [← hg1, ← hg2]; rfl]
  clear hg1 hg2 HFF
  go_enter Try.func59, Try.ntmps59
  go_wp2_with fail
  go_loopw [5, 6, 7, 10] (fun ov _ _ iv wr => ∃ (i : Nat) (A' : Option Addr) (c' : Nat) (l : List Nat), iv = .int .i64 i ∧ ov = .slice A' i c' ∧ i ≤ n ∧ New w wr 3 1 A' i c' (nums .i64 (places l)) ∧ Hid (InOrder f ps i l) ∧ Ext w wr) (fun _ _ _ iv _ => n - (intOf iv).toNat)
  case atStart => exact ⟨0, none, 0, [], rfl, rfl, Nat.zero_le _, Own.nil _ _ _ _, Lib.hid ⟨List.Pairwise.nil, fun x => by simp, rfl⟩, Ext.refl _⟩
  case round =>
    obtain ⟨i, A', c', l, rfl, rfl, hi, ho, HO, hx⟩ := hrel
    by_cases hlt : i < n
    · have hll := HO.out.2.2
      have hcap := ho.cap.1
      obtain ⟨p, hp⟩ : ∃ p, ps[i]? = some p := ⟨_, List.getElem?_eq_getElem (by omega)⟩
      obtain ⟨ad, rfl, x0⟩ := (h.ext hx) i p hp
      have np := HR.out p (List.mem_of_getElem? hp)
      have HDI : Hid (dk f ps i = dist f p) := Lib.hid (by unfold dk; rw [at0_of hp])
      unfold cpx at x0
      have HFI := Lib.hid fun W => far_calls (.complex .f64 g1 g2) (.complex .f64 (F p.1) (F p.2)) f.1 f.2 p.1 p.2 W HPF.out (pt_at np.1 np.2) hf.1 hf.2 np.1 np.2
      rw [show (f.1 - p.1) * (f.1 - p.1) + (f.2 - p.2) * (f.2 - p.2) = dist f p from rfl] at HFI
      generalize F p.1 = f1 at *
      generalize F p.2 = f2 at *
      generalize dist f p = di at *
      clear hp np
      go_wp2_with fail
      obtain ⟨wo, rfl⟩ : ∃ wo : World, wo = wr := ⟨_, rfl⟩
      go_loopw [7] (fun av wr2 => ∃ (a : Nat), av = .int .i64 a ∧ a ≤ i ∧ Hid (∀ (j : Nat) (hj : j < l.length), a ≤ j → dk f ps i < dk f ps l[j]) ∧ New w wr2 3 1 A' i c' (nums .i64 (places l)) ∧ Ext w wr2 ∧ Ext wo wr2) (fun av _ => (intOf av).toNat)
      case atStart => exact ⟨i, rfl, Nat.le_refl _, Lib.hid fun j hj h => by omega, ho, hx, Ext.refl _⟩
      case round =>
        clear ho hx
        obtain ⟨a, rfl, hai, HA, ho, hx, hxo⟩ := hrel
        -- the place has been found
        have hfin : (a = 0 ∨ ∃ hj : a - 1 < l.length, dk f ps l[a - 1] ≤ dk f ps i) → InOrder f ps (i + 1) (l.take a ++ i :: l.drop a) := fun h2 => by
          obtain ⟨o1, o2, o3⟩ := HO.out
          exact ⟨SiteN.insert_sorted o1 (fun x hx => (o2 x).1 hx) (by omega) HA.out h2, fun x => by rw [SiteN.mem_insert, o2]; omega, by simp; omega⟩
        have hplc : places (l.take a ++ i :: l.drop a) = (places l).take a ++ (i : Int) :: (places l).drop a := by simp [places, List.map_take, List.map_drop]
        have HFIN := Lib.hid hfin
        have HPLC := Lib.hid hplc
        clear hfin hplc
        rcases Nat.eq_zero_or_pos a with h0 | h0
        · subst h0
          have hbt : decide ((0 : Int) < 0) = false := rfl
          go_wp2_with fail
          go_quiet (fail)
          have hE := hx.drewN nq
          have hoW := ho.extNew ((Ext.refl wr).drewN nq)
          clear ho hx hxo hbt
          have hownL := (hoW.extNew (Ext.new _ (.cells #[.int .i64 (i : Int)] 3)))
          have hEL := hE.alloc (.cells #[.int .i64 (i : Int)] 3)
          have hneL : (Value.slice A' i c').ownBlock ≠ some (wr.drewN nq).heap.size := fun e => Nat.lt_irrefl _ (hoW.row.lt _ e).2
          have HINS := Lib.hid fun z hz => Insert.insert_at w _ A' i c' (places l) 0 z hz (i : Int) (wr.drewN nq).heap.size hownL hEL (by omega) (by omega) (at_new _ _) hneL
          clear hownL hEL hneL hoW hE
          go_wp2_with fail
          refine (HINS.out _ (by omega)).mono ?_
          rintro e w7 ⟨A7, c7, rfl, ho7, hx7⟩
          rw [← HPLC.out] at ho7
          go_wp2_with fail
          go_roundw
          case rel => exact ⟨i + 1, A7, c7, _, by go_num, rfl, by omega, ho7, Lib.hid (HFIN.out (.inl (by trivial))), hx7⟩
          case measure => first | (simp [intOf]; done) | (simp [intOf]; omega)
        · obtain ⟨a', rfl⟩ : ∃ a', a = a' + 1 := ⟨a - 1, by omega⟩
          have ha'l : a' < l.length := by omega
          obtain ⟨q, hq⟩ : ∃ q, l[a'] = q := ⟨_, rfl⟩
          have hqi : q < i := (HO.out.2.1 q).1 (by rw [← hq]; exact List.getElem_mem _)
          obtain ⟨pq, hpq⟩ : ∃ pq, ps[q]? = some pq := ⟨_, List.getElem?_eq_getElem (by omega)⟩
          obtain ⟨ad', e', y0⟩ := (h.ext hx) q pq hpq
          cases e'
          have nq := HR.out pq (List.mem_of_getElem? hpq)
          have HDQ : Hid (dk f ps l[a'] = dist f pq) := Lib.hid (by rw [hq]; unfold dk; rw [at0_of hpq])
          unfold cpx at y0
          have HFQ := Lib.hid fun W => far_calls (.complex .f64 g1 g2) (.complex .f64 (F pq.1) (F pq.2)) f.1 f.2 pq.1 pq.2 W HPF.out (pt_at nq.1 nq.2) hf.1 hf.2 nq.1 nq.2
          rw [show (f.1 - pq.1) * (f.1 - pq.1) + (f.2 - pq.2) * (f.2 - pq.2) = dist f pq from rfl] at HFQ
          generalize F pq.1 = f3 at *
          generalize F pq.2 = f4 at *
          generalize dist f pq = dq at *
          obtain ⟨ar, hA', z0⟩ := own_cell (j := a') (u := .int .i64 (q : Int)) ho (by rw [← hq]; simp [nums, places, ha'l])
          subst hA'
          have d0 : ∀ W, Ext wr W → W.cell? (ad.add i) = some (.complex .f64 f1 f2) := fun W hW => (hxo.trans hW).cell_ x0
          have d1 : ∀ W, Ext wr W → W.cell? (ad.add q) = some (.complex .f64 f3 f4) := fun W hW => hW.cell_ y0
          have d2 : ∀ W, Ext wr W → W.cell? (ar.add a') = some (.int .i64 (q : Int)) := fun W hW => hW.cell_ z0
          have b1 : (q : Int) < n := by omega
          have b2 : (0 : Int) ≤ q := by omega
          have b3 : (a' : Int) < i := by omega
          have b4 : (0 : Int) ≤ a' := by omega
          have b5 : (i : Int) < n := by omega
          have b6 : IntKind.i64.wrap ((a' : Int) + 1 - 1) = a' := by rw [IntWalk.i64_in _ (by omega)]; omega
          have b7 : IntKind.i64.wrap (a' : Int) = a' := IntWalk.i64_in _ (by omega)
          clear hpq nq y0 z0 hq
          go_wp2_with fail
          refine Lex.wp_region_u [0, 1, 2, 3, 4, 5, 6, 7, 8, 9, 10, 11, 12, 13, 14, 15, 16, 17, 18, 19, 20] [] [(12, .const (.int .i64 dq)), (18, .const (.int .i64 di))] (by kernel_rfl) (by kernel_rfl) (by repeat (first | exact Lex.st_nil | refine Lex.st_cons (by first | exact Lex.nums_st | exact Lex.const_st | exact Lex.such_st | exact Lex.row_st | exact Lex.rowE_st | exact Lex.litR_st | assumption) ?_)) ?_; simp only [Lex.pick, List.getElem?_cons_succ, List.getElem?_cons_zero, List.map_cons, List.map_nil]
          repeat (first | (refine Lex.lexU_skip (by rfl) ?_; simp only [Act.put, List.setIfInBounds_toArray, List.set_cons_zero, List.set_cons_succ]) | (refine Lex.lexU_still (by rfl) (by rfl) (by first | exact Base.Ext.refl | exact Lex.Fill.refl) ?_; apply Exists.intro; refine ⟨fun W hW => ?_, ?_⟩; (have hE := Lex.ext_of_cls hW.1; have hE2 := Lex.ext_drew hE; clear hW; go_simp; try with_reducible rfl); simp only [Act.put, List.setIfInBounds_toArray, List.set_cons_zero, List.set_cons_succ]))
          refine Lex.lexU_loose (by rfl) (by rfl) (fun W hW => ?_) ?_
          · go_simp
            refine (HFQ.out _).mono ?_
            rintro e w5 ⟨rfl, rfl⟩
            exact ⟨_, rfl, rfl, Ext.refl _, trivial⟩
          rintro v rfl
          simp only [Act.put, List.setIfInBounds_toArray, List.set_cons_zero, List.set_cons_succ]
          repeat (first | (refine Lex.lexU_skip (by rfl) ?_; simp only [Act.put, List.setIfInBounds_toArray, List.set_cons_zero, List.set_cons_succ]) | (refine Lex.lexU_still (by rfl) (by rfl) (by first | exact Base.Ext.refl | exact Lex.Fill.refl) ?_; apply Exists.intro; refine ⟨fun W hW => ?_, ?_⟩; (have hE := Lex.ext_of_cls hW.1; have hE2 := Lex.ext_drew hE; clear hW; go_simp; try with_reducible rfl); simp only [Act.put, List.setIfInBounds_toArray, List.set_cons_zero, List.set_cons_succ]))
          refine Lex.lexU_loose (by rfl) (by rfl) (fun W hW => ?_) ?_
          · go_simp
            refine (HFI.out _).mono ?_
            rintro e w5 ⟨rfl, rfl⟩
            exact ⟨_, rfl, rfl, Ext.refl _, trivial⟩
          rintro v rfl
          simp only [Act.put, List.setIfInBounds_toArray, List.set_cons_zero, List.set_cons_succ]
          repeat (first | (refine Lex.lexU_skip (by rfl) ?_; simp only [Act.put, List.setIfInBounds_toArray, List.set_cons_zero, List.set_cons_succ]) | (refine Lex.lexU_still (by rfl) (by rfl) (by first | exact Base.Ext.refl | exact Lex.Fill.refl) ?_; apply Exists.intro; refine ⟨fun W hW => ?_, ?_⟩; (have hE := Lex.ext_of_cls hW.1; have hE2 := Lex.ext_drew hE; clear hW; go_simp; try with_reducible rfl); simp only [Act.put, List.setIfInBounds_toArray, List.set_cons_zero, List.set_cons_succ]))
          refine Lex.lexU_nil (fun W hW => ?_)
          have hE := hx.trans (Lex.ext_drew (Lex.ext_of_cls hW.1))
          have hEo := hxo.trans (Lex.ext_drew (Lex.ext_of_cls hW.1))
          have hoW := ho.extNew (Lex.ext_drew (Lex.ext_of_cls hW.1))
          clear hW ho hx hxo d0 d1 d2 b6 b7
          refine Lex.onlyN_intro ?_
          by_cases hdd : di < dq
          · have HA2 : Hid (∀ (j : Nat) (hj : j < l.length), a' ≤ j → dk f ps i < dk f ps l[j]) := Lib.hid fun j hj h => by
              rcases Nat.lt_or_ge a' j with h' | h'
              · exact HA.out j hj (by omega)
              · obtain rfl : j = a' := by omega
                rw [HDI.out, HDQ.out]
                exact hdd
            clear HFIN HPLC
            go_wp2_with fail
            go_roundw
            case rel => exact ⟨a', by go_num, by omega, HA2, hoW, hE, hEo⟩
            case measure => first | (simp [intOf]; done) | (simp [intOf]; omega)
          · have hdd' : dq ≤ di := by omega
            have hownL := (hoW.extNew (Ext.new _ (.cells #[.int .i64 (i : Int)] 3)))
            have hEL := hE.alloc (.cells #[.int .i64 (i : Int)] 3)
            have hneL : (Value.slice (some ar) i c').ownBlock ≠ some W.heap.size := fun e => Nat.lt_irrefl _ (hoW.row.lt _ e).2
            have HINS := Lib.hid fun z hz => Insert.insert_at w _ (some ar) i c' (places l) (a' + 1) z hz (i : Int) W.heap.size hownL hEL (by omega) (by omega) (at_new _ _) hneL
            clear hownL hEL hneL hoW hE
            go_wp2_with fail
            refine (HINS.out _ (by omega)).mono ?_
            rintro e w7 ⟨A7, c7, rfl, ho7, hx7⟩
            rw [← HPLC.out] at ho7
            go_wp2_with fail
            go_roundw
            case rel => exact ⟨i + 1, A7, c7, _, by go_num, rfl, by omega, ho7, Lib.hid (HFIN.out (.inr ⟨by omega, by rw [HDI.out]; simp only [Nat.add_sub_cancel]; rw [HDQ.out]; exact hdd'⟩)), hx7⟩
            case measure => first | (simp [intOf]; done) | (simp [intOf]; omega)
    · obtain rfl : i = n := by omega
      go_wp2_with fail
      go_ret
      exact ⟨hx, A', c', l, rfl, ho, HO.out⟩
end Go.Proofs.Ytaohnialheccdaa.SitePts
