/- The document's Put: walked. -/
import Derived.Test.YtipmkddcdnbihaaUrgT
import Derived.Test.YtipmkddcdnbihaaLexR
import Derived.Deep.DeepCutAuto
import Derived.Deep.CutBlock
import Derived.Deep.QuietTactic
import Derived.BigQuiet
namespace Go.Proofs.Ytipmkddcdnbihaa.Urg
open Go.RowKit Base Step MapIs Vec
open UrgP
theorem own_most {w : World} {S : Nat → Prop} {e : TypeId} {size n c : Nat} {A : Option Addr} {xs : List Value} (h : Own w S e size (.slice A n c) n xs) : c ≤ maxLen := by
  rcases A with _ | ad
  · have := (Splice.own_none h).2.1
    omega
  · obtain ⟨g, cur, _, _, _, h1, _⟩ := Splice.blk_own h
    exact h1
def cutJ (A : Option Addr) (p c : Nat) : Option Addr := if p = c then A else A.map fun a => a.add (p * 3)
theorem cutJ_none {A : Option Addr} {p c : Nat} (h : cutJ A p c = none) : A = none := by
  unfold cutJ at h
  split at h
  · exact h
  · simpa using h
theorem jobsV_one (l : List Job) : ∀ u ∈ l.flatMap jobV, u.oneCell' = true := fun u hu => by
  obtain ⟨j, _, hj⟩ := List.mem_flatMap.1 hu
  exact jobV_one j u hj
theorem flat_take (l : List Job) (p : Nat) (hp : p ≤ l.length) : (l.flatMap jobV).take (p * 3) = (l.take p).flatMap jobV := by
  conv => lhs; rw [← List.take_append_drop p l, List.flatMap_append]
  have h : ((l.take p).flatMap jobV).length = p * 3 := by rw [flat_len, List.length_take, Nat.min_eq_left hp]
  rw [List.take_append_of_le_length (by omega), List.take_of_length_le (by omega)]
theorem flat_drop (l : List Job) (p : Nat) (hp : p ≤ l.length) : (l.flatMap jobV).drop (p * 3) = (l.drop p).flatMap jobV := by
  have h1 := List.take_append_drop (p * 3) (l.flatMap jobV)
  rw [flat_take l p hp] at h1
  have h2 : l.flatMap jobV = (l.take p).flatMap jobV ++ (l.drop p).flatMap jobV := by rw [← List.flatMap_append, List.take_append_drop]
  exact List.append_cancel_left (h1.trans h2)
/-- A job laid into a list in order. -/
theorem ins_sorted {r : List Job} {j : Job} {p : Nat} (hs : Sorted r) (hb : ∀ d, d < p → UrgP.ahead (at_ r d) j = true) (hp : p ≤ r.length) (he : p < r.length → UrgP.ahead (at_ r p) j = false) (hn : ∀ x ∈ r, x ≠ j) : Sorted (r.take p ++ [j] ++ r.drop p) := by
  have h1 : ∀ x ∈ r.take p, UrgP.ahead x j = true := fun x hx => by
    obtain ⟨d, hd, e⟩ := List.getElem_of_mem hx
    rw [List.length_take] at hd
    have := hb d (by omega)
    rwa [at_eq (j := x) (by rw [← e, List.getElem_take, List.getElem?_eq_getElem])] at this
  have h2 : ∀ x ∈ r.drop p, UrgP.ahead j x = true := fun x hx => by
    by_cases hpr : p < r.length
    · have hd : r.drop p = at_ r p :: r.drop (p + 1) := by rw [List.drop_eq_getElem_cons hpr, at_eq (List.getElem?_eq_getElem hpr)]
      have h3 : UrgP.ahead j (at_ r p) = true := by
        cases h : UrgP.ahead j (at_ r p) with
        | true => rfl
        | false => exact absurd (UrgP.total (he hpr) h) (hn _ (at_mem hpr))
      rw [hd] at hx
      rcases List.mem_cons.1 hx with rfl | hx
      · exact h3
      · have hs2 : Sorted (r.drop p) := hs.sublist (List.drop_sublist p r)
        rw [hd] at hs2
        exact UrgP.trans h3 ((List.pairwise_cons.1 hs2).1 x hx)
    · rw [List.drop_of_length_le (by omega)] at hx
      cases hx
  have hs' : Sorted (r.take p ++ r.drop p) := by rw [List.take_append_drop]; exact hs
  have h4 := List.pairwise_append.1 hs'
  rw [List.append_assoc]
  refine List.pairwise_append.2 ⟨h4.1, List.pairwise_cons.2 ⟨h2, h4.2.1⟩, fun a ha b hb => ?_⟩
  rcases List.mem_cons.1 hb with rfl | hb
  · exact h1 a ha
  · exact h4.2.2 a ha b hb
set_option maxRecDepth 100000 in
set_option maxHeartbeats 8000000 in
theorem rput_calls (A : Option Addr) (n c : Nat) (r : List Job) (j : Job) (w : World) (h : RowJ w A n c r) (hj : Ok j) (hn : n ≤ 1000000) :
    Calls Try.prog 23 #[.slice A n c, jobA j] w fun e w' => ∃ A' m c' r2, e = .returned (.slice A' m c') ∧ Rest w A' m c' r2 w' ∧ r2.Perm (j :: without r (UrgP.key j)) ∧ (Sorted r → Sorted r2) := by
  have hle : n = r.length := h.len.symm
  have e0 := Ext.new w (.cells #[.int .u32 j.o, .int .u16 j.s, .int .i64 j.g] 35)
  have hb0 := at_new w (.cells #[.int .u32 j.o, .int .u16 j.s, .int .i64 j.g] 35)
  have H0 := Lib.hid (h.ext e0)
  have E0 := Lib.hid e0
  have HOK := Lib.hid hj
  have HLE := Lib.hid hle
  clear h e0 hj hle
  go_enter Try.func23, Try.ntmps23
  go_upto_region 1 with fail
  generalize w.alloc (.cells #[.int .u32 j.o, .int .u16 j.s, .int .i64 j.g] 35) = wa at *
  have B0 := Lib.hid hb0
  have c0 := blk_cell (i := 0) hb0 (Ext.refl _) rfl
  have c1 := blk_cell (i := 1) hb0 (Ext.refl _) rfl
  clear hb0
  go_wp2_with fail
  refine (rdrop_calls A n c r j.o j.s wa H0.out hn).mono ?_
  rintro e w1 ⟨A1, n1, c1', rfl, hrest⟩
  have hn1 : n1 ≤ 1000000 := by
    have h1 := hrest.len
    have h2 : (without r (j.o, j.s)).length ≤ r.length := List.length_filter_le _ _
    have := HLE.out
    omega
  have hmost := own_most hrest.own
  obtain ⟨r1, hr1⟩ : ∃ r1, r1 = without r (j.o, j.s) := ⟨_, rfl⟩
  rw [← hr1] at hrest
  have hok1 : ∀ x ∈ r1, Ok x := fun x hx => by
    rw [hr1] at hx
    obtain ⟨i, hi, he⟩ := List.getElem_of_mem (List.mem_filter.1 hx).1
    exact (H0.out.at_ i x (by rw [List.getElem?_eq_getElem hi, he])).1
  have HR1 := Lib.hid (RowJ.own hrest.own hrest.len hok1 hmost)
  have HO1 := Lib.hid hrest.own
  have E1 := Lib.hid (E0.out.trans hrest.ext)
  have B1 := Lib.hid (hrest.ext.at_ B0.out)
  have HL1 := Lib.hid hrest.len
  have HRR := Lib.hid hr1
  clear hrest c0 c1 hok1 hr1 B0
  go_upto_block 0 with fail
  go_cut [5] (fun v wx => ∃ p : Nat, v = .int .i64 p ∧ p ≤ n1 ∧ Hid (Ext w1 wx ∧ (∀ d, d < p → UrgP.ahead (at_ r1 d) j = true) ∧ (p < r1.length → UrgP.ahead (at_ r1 p) j = false)))
  case first =>
    go_wp2_with fail
    go_loopg [5] n1 (fun left i wr => ∃ k : Nat, i = .int .i64 k ∧ k + left = n1 ∧ Hid (Ext w1 wr ∧ ∀ d, d < k → UrgP.ahead (at_ r1 d) j = true))
    case atStart => exact ⟨0, rfl, by omega, Lib.hid ⟨Ext.refl _, fun d hd => by omega⟩⟩
    case round =>
      obtain ⟨k, rfl, hk, HK⟩ := hrel
      by_cases hlt : k < n1
      · have hkr : k < r1.length := by rw [HL1.out]; exact hlt
        obtain ⟨_, ad, hA, c0, c1, c2⟩ := HR1.out.at_ k _ (at_get hkr)
        subst hA
        obtain ⟨x, hx⟩ : ∃ x, x = at_ r1 k := ⟨_, rfl⟩
        rw [← hx] at c0 c1 c2
        have HX := Lib.hid hx
        clear hx hkr
        replace c0 : ∀ W, Ext wr.drew W → W.cell? (ad.add (k * 3)) = some (.int .u32 x.o) := fun W hW => (HK.out.1.trans (drew_ext hW)).cell_ c0
        replace c1 : ∀ W, Ext wr.drew W → W.cell? ⟨(ad.add (k * 3)).block, (ad.add (k * 3)).off + 1, none⟩ = some (.int .u16 x.s) := fun W hW => (HK.out.1.trans (drew_ext hW)).cell_ c1
        replace c2 : ∀ W, Ext wr.drew W → W.cell? ⟨(ad.add (k * 3)).block, (ad.add (k * 3)).off + 2, none⟩ = some (.int .i64 x.g) := fun W hW => (HK.out.1.trans (drew_ext hW)).cell_ c2
        have d0 : ∀ W, Ext wr.drew W → W.cell? ⟨w.heap.size, 0, none⟩ = some (.int .u32 j.o) := fun W hW => blk_cell (i := 0) B1.out (HK.out.1.trans (drew_ext hW)) rfl
        have d1 : ∀ W, Ext wr.drew W → W.cell? ⟨w.heap.size, 1, none⟩ = some (.int .u16 j.s) := fun W hW => blk_cell (i := 1) B1.out (HK.out.1.trans (drew_ext hW)) rfl
        have d2 : ∀ W, Ext wr.drew W → W.cell? ⟨w.heap.size, 2, none⟩ = some (.int .i64 j.g) := fun W hW => blk_cell (i := 2) B1.out (HK.out.1.trans (drew_ext hW)) rfl
        go_wp2_with fail
        refine Lex.wp_region_u [0, 1, 2, 3, 4, 5, 6, 7, 8, 9, 10, 11] [] [(10, .const (.bool (UrgP.ahead x j)))] (by kernel_rfl) (by kernel_rfl) (by repeat (first | exact Lex.st_nil | refine Lex.st_cons (by first | exact Lex.nums_st | exact Lex.const_st | exact Lex.such_st | exact Lex.row_st | exact Lex.rowE_st | exact Lex.litR_st | assumption) ?_)) ?_; simp only [Lex.pick, List.getElem?_cons_succ, List.getElem?_cons_zero, List.map_nil]
        repeat (first | (refine Lex.lexU_skip (by rfl) ?_; simp only [Act.put, List.setIfInBounds_toArray, List.set_cons_zero, List.set_cons_succ]) | (refine Lex.lexU_still (by rfl) (by rfl) (by first | exact Base.Ext.refl | exact Lex.Fill.refl) ?_; apply Exists.intro; refine ⟨fun W hW => ?_, ?_⟩; (have hE := Lex.ext_of_cls hW.1; have hE2 := Lex.ext_drew hE; clear hW; go_simp; try with_reducible rfl); simp only [Act.put, List.setIfInBounds_toArray, List.set_cons_zero, List.set_cons_succ]))
        refine Lex.lexU_loose (by rfl) (by rfl) (fun W hW => ?_) ?_
        · clear hW
          go_simp
          refine (less_calls x j _).mono ?_
          rintro e w9 ⟨rfl, he9⟩
          exact ⟨_, rfl, rfl, he9, trivial⟩
        rintro v rfl
        simp only [Act.put, List.setIfInBounds_toArray, List.set_cons_zero, List.set_cons_succ]
        repeat (first | (refine Lex.lexU_skip (by rfl) ?_; simp only [Act.put, List.setIfInBounds_toArray, List.set_cons_zero, List.set_cons_succ]) | (refine Lex.lexU_still (by rfl) (by rfl) (by first | exact Base.Ext.refl | exact Lex.Fill.refl) ?_; apply Exists.intro; refine ⟨fun W hW => ?_, ?_⟩; (have hE := Lex.ext_of_cls hW.1; have hE2 := Lex.ext_drew hE; clear hW; go_simp; try with_reducible rfl); simp only [Act.put, List.setIfInBounds_toArray, List.set_cons_zero, List.set_cons_succ]))
        refine Lex.lexU_nil (fun W hW => ?_)
        have hE := Lib.hid (Lex.ext_drew hW.1)
        clear hW c0 c1 c2 d0 d1 d2
        refine Lex.onlyN_intro ?_
        obtain ⟨b, hb⟩ : ∃ b, b = UrgP.ahead x j := ⟨_, rfl⟩
        rw [← hb]
        have HB := Lib.hid hb
        clear hb
        cases b with
        | false =>
          go_wp2_with fail
          go_meet
          exact ⟨k, rfl, by omega, Lib.hid ⟨HK.out.1.trans hE.out, HK.out.2, fun _ => by rw [← HX.out]; exact HB.out.symm⟩⟩
        | true =>
          go_wp2_with fail
          go_roundg (n1 - (k + 1))
          case measure => omega
          case rel =>
            refine ⟨k + 1, by first | rfl | go_num, by omega, Lib.hid ⟨HK.out.1.trans hE.out, fun d hd => ?_⟩⟩
            by_cases hdk : d = k
            · subst hdk; rw [← HX.out]; exact HB.out.symm
            · exact HK.out.2 d (by omega)
      · obtain rfl : k = n1 := by omega
        go_wp2_with fail
        go_quiet (fail)
        go_wp2_with fail
        go_meet
        exact ⟨k, rfl, Nat.le_refl _, Lib.hid ⟨HK.out.1.drewN _, HK.out.2, fun hp => absurd hp (by rw [HL1.out]; omega)⟩⟩
  case rest =>
    obtain ⟨p, rfl, hp, HC⟩ := hcut
    rename_i wc
    have hA0 := HR1.out.nil
    have hcm := HR1.out.most
    have hroom := HR1.out.room
    have hpr : p ≤ r1.length := by rw [HL1.out]; exact hp
    have z0 : ∀ W, Ext wc.drew W → W.cell? ⟨w.heap.size, 0, none⟩ = some (.int .u32 j.o) := fun W hW => blk_cell (i := 0) B1.out (HC.out.1.trans (drew_ext hW)) rfl
    have z1 : ∀ W, Ext wc.drew W → W.cell? ⟨w.heap.size, 1, none⟩ = some (.int .u16 j.s) := fun W hW => blk_cell (i := 1) B1.out (HC.out.1.trans (drew_ext hW)) rfl
    have z2 : ∀ W, Ext wc.drew W → W.cell? ⟨w.heap.size, 2, none⟩ = some (.int .i64 j.g) := fun W hW => blk_cell (i := 2) B1.out (HC.out.1.trans (drew_ext hW)) rfl
    have HLA : Hid (((r1.take p).flatMap jobV).length = p * 3) := Lib.hid (by rw [flat_len, List.length_take, Nat.min_eq_left hpr])
    have HLB : Hid (((r1.drop p).flatMap jobV).length = (n1 - p) * 3) := Lib.hid (by rw [flat_len, List.length_drop, HL1.out])
    have hreads : ∀ W, Ext wc.drew W → ∀ ad, A1 = some ad → ∀ t u, (r1.flatMap jobV)[t]? = some u → W.cell? (ad.add t) = some u := fun W hW ad ha t u hu => (HC.out.1.trans (drew_ext hW)).cell_ (Lex.own_cells HO1.out ad ha t u hu)
    have HRd := Lib.hid hreads
    clear hreads
    have HD0 : Hid (Ext w wc.drew) := Lib.hid ((E1.out.trans HC.out.1).trans (Ext.drew (Ext.refl _)))
    clear hpr
    go_wp2_with fail
    refine Lex.wp_region_r [0, 1, 2, 3, 4, 5, 6, 7, 8, 9, 10, 11, 12] [] [(4, 0), (7, 4), (11, 7)] [(0, Lex.rowR wc.drew 35 3 0 []), (4, Lex.rowR wc.drew 35 3 p ((r1.take p).flatMap jobV)), (6, Lex.rowR wc.drew 35 3 1 (jobV j)), (7, Lex.rowR wc.drew 35 3 (p + 1) ((r1.take p).flatMap jobV ++ jobV j)), (11, Lex.rowR wc.drew 35 3 (n1 + 1) ((r1.take p).flatMap jobV ++ jobV j ++ (r1.drop p).flatMap jobV))] (by kernel_rfl) (by kernel_rfl) (by kernel_rfl) (by repeat (first | exact Lex.ok_nilR | refine Lex.ok_consR (by first | exact Lex.rowR_ok | exact Tbl.rdR_ok | assumption) ?_)) ?_; simp only [Lex.pick, List.getElem?_cons_succ, List.getElem?_cons_zero, List.map_cons, List.map_nil]
    refine Lex.lexR_loose (by rfl) (by rfl) (fun W hW hAP => ?_) ?_
    · have hE := hW.1
      clear hW
      go_simp
      exact Lex.rowR_new hE.size (Ext.new _ _) (own_empty (at_new _ _) (Nat.le_refl _))
    rintro v fx ⟨A0, c0, rfl⟩
    simp only [Act.put, List.setIfInBounds_toArray, List.set_cons_zero, List.set_cons_succ]
    iterate 2 (first | (refine Lex.lexR_skip (by rfl) ?_; simp only [Act.put, List.setIfInBounds_toArray, List.set_cons_zero, List.set_cons_succ]) | (refine Lex.lexR_still (by rfl) (by rfl) ?_; apply Exists.intro; refine ⟨fun W hW => ?_, ?_⟩; (have hE := hW; have hE2 := Lex.ext_drew hE; clear hW; go_simp; try with_reducible rfl); simp only [Act.put, List.setIfInBounds_toArray, List.set_cons_zero, List.set_cons_succ]))
    refine Lex.lexR_still (by rfl) (by rfl) ⟨.slice A1 p c1', fun W hW => ?_, ?_⟩
    · have hE := hW
      clear hW
      have q1 : ((p : Nat) : Int) ≤ ((c1' : Nat) : Int) := by omega
      cases hAA : A1 with
      | none =>
        have h1 := hA0 hAA
        have h2 : p = 0 := by omega
        subst h2
        rw [h1]
        go_simp
      | some ad =>
        go_simp
    simp only [Act.put, List.setIfInBounds_toArray, List.set_cons_zero, List.set_cons_succ]
    refine Lex.lexR_loose (by rfl) (by rfl) (fun W hW hAP => ?_) ?_
    · obtain ⟨hown, hfo⟩ := ((hW.2 0 (by kernel_rfl) rfl).2 rfl) _ _ rfl
      have hE := hW.1
      clear hW
      refine Lex.app_looseR (.tmp 26) (.tmp 29) _ rfl 35 _ 3 16 Try.underlying22 info_rjob rfl (by decide) (by decide) rfl hown (fun i hi => ⟨0, by simp, .inr ⟨rfl, hfo i hi⟩⟩) rfl HLA.out (fun h => by have := hA0 h; omega) (fun ad ha t u hu => HRd.out _ hE ad ha t u (by
        rw [← flat_take r1 p (by rw [HL1.out]; exact hp)] at hu
        have := (List.getElem?_eq_some_iff.1 hu).1
        rw [List.length_take] at this
        rwa [List.getElem?_take_of_lt (by omega)] at hu)) (jobsV_one _) (by omega) hE.size (Nat.zero_add _) rfl
    rintro v fx ⟨A2, c2, rfl⟩
    simp only [Act.put, List.setIfInBounds_toArray, List.set_cons_zero, List.set_cons_succ]
    repeat (first | (refine Lex.lexR_skip (by rfl) ?_; simp only [Act.put, List.setIfInBounds_toArray, List.set_cons_zero, List.set_cons_succ]) | (refine Lex.lexR_still (by rfl) (by rfl) ?_; apply Exists.intro; refine ⟨fun W hW => ?_, ?_⟩; (have hE := hW; have hE2 := Lex.ext_drew hE; clear hW; go_simp; try with_reducible rfl); simp only [Act.put, List.setIfInBounds_toArray, List.set_cons_zero, List.set_cons_succ]))
    refine Lex.lexR_loose (by rfl) (by rfl) (fun W hW hAP => ?_) ?_
    · have hE := hW.1
      clear hW
      go_simp
      exact Lex.rowR_new hE.size (Ext.new _ _) (Lex.own_lit (by simp) (by decide))
    rintro v fx ⟨A3, c3, rfl⟩
    simp only [Act.put, List.setIfInBounds_toArray, List.set_cons_zero, List.set_cons_succ]
    refine Lex.lexR_loose (by rfl) (by rfl) (fun W hW hAP => ?_) ?_
    · obtain ⟨hown, hfo⟩ := ((hW.2 4 (by kernel_rfl) rfl).1.2 rfl) _ _ rfl
      obtain ⟨hlit, _⟩ := ((hW.2 6 (by kernel_rfl) rfl).2 rfl) _ _ rfl
      have hE := hW.1
      clear hW
      refine Lex.app_looseR (.tmp 30) (.tmp 32) _ rfl 35 _ 3 16 Try.underlying22 info_rjob rfl (by decide) (by decide) rfl hown (fun i hi => ⟨4, by simp, .inl (.inr ⟨rfl, hfo i hi⟩)⟩) rfl rfl (fun h => by subst h; have := hlit.cap.2 rfl; have := hlit.cap.1; omega) (Lex.own_cells hlit) (by simp [jobV, Value.oneCell']) (by omega) hE.size rfl rfl
    rintro v fx ⟨A4, c4, rfl⟩
    simp only [Act.put, List.setIfInBounds_toArray, List.set_cons_zero, List.set_cons_succ]
    iterate 2 (first | (refine Lex.lexR_skip (by rfl) ?_; simp only [Act.put, List.setIfInBounds_toArray, List.set_cons_zero, List.set_cons_succ]) | (refine Lex.lexR_still (by rfl) (by rfl) ?_; apply Exists.intro; refine ⟨fun W hW => ?_, ?_⟩; (have hE := hW; have hE2 := Lex.ext_drew hE; clear hW; go_simp; try with_reducible rfl); simp only [Act.put, List.setIfInBounds_toArray, List.set_cons_zero, List.set_cons_succ]))
    refine Lex.lexR_still (by rfl) (by rfl) ⟨.slice (cutJ A1 p c1') (n1 - p) (c1' - p), fun W hW => ?_, ?_⟩
    · have hE := hW
      clear hW
      have q1 : ((p : Nat) : Int) ≤ ((n1 : Nat) : Int) := by omega
      have q2 : ((n1 : Nat) : Int) ≤ ((c1' : Nat) : Int) := by omega
      unfold cutJ
      cases hAA : A1 with
      | none =>
        have h1 := hA0 hAA
        have h2 : p = 0 := by omega
        have h3 : n1 = 0 := by omega
        subst h2
        rw [h1, h3]
        go_simp
      | some ad =>
        by_cases hpc : p = c1'
        · go_simp
          exact fun h => absurd h (by omega)
        · go_simp
          exact fun h => absurd h.symm hpc
    simp only [Act.put, List.setIfInBounds_toArray, List.set_cons_zero, List.set_cons_succ]
    refine Lex.lexR_loose (by rfl) (by rfl) (fun W hW hAP => ?_) ?_
    · obtain ⟨hown, hfo⟩ := ((hW.2 7 (by kernel_rfl) rfl).2 rfl) _ _ rfl
      have hE := hW.1
      clear hW
      refine Lex.app_looseR (.tmp 33) (.tmp 36) _ rfl 35 _ 3 16 Try.underlying22 info_rjob rfl (by decide) (by decide) rfl hown (fun i hi => ⟨7, by simp, .inr ⟨rfl, hfo i hi⟩⟩) rfl HLB.out (fun h => by have := hA0 (cutJ_none h); omega) (fun ad ha t u hu => by
        unfold cutJ at ha
        split at ha
        · rename_i hpc
          have : t < ((r1.drop p).flatMap jobV).length := (List.getElem?_eq_some_iff.1 hu).1
          rw [HLB.out] at this
          omega
        · obtain ⟨a, ha1, rfl⟩ := Option.map_eq_some_iff.1 ha
          rw [← flat_drop r1 p (by rw [HL1.out]; exact hp), List.getElem?_drop] at hu
          rw [add_add]
          exact HRd.out _ hE a ha1 _ u hu) (jobsV_one _) (by omega) hE.size (by omega) rfl
    rintro v fx ⟨A5, c5, rfl⟩
    simp only [Act.put, List.setIfInBounds_toArray, List.set_cons_zero, List.set_cons_succ]
    repeat (first | (refine Lex.lexR_skip (by rfl) ?_; simp only [Act.put, List.setIfInBounds_toArray, List.set_cons_zero, List.set_cons_succ]) | (refine Lex.lexR_still (by rfl) (by rfl) ?_; apply Exists.intro; refine ⟨fun W hW => ?_, ?_⟩; (have hE := hW; have hE2 := Lex.ext_drew hE; clear hW; go_simp; try with_reducible rfl); simp only [Act.put, List.setIfInBounds_toArray, List.set_cons_zero, List.set_cons_succ]))
    refine Lex.lexR_nil (fun W hW hF => ?_)
    have HOWN := Lib.hid (((hF 11 rfl).2 rfl) _ _ rfl).1
    have HEW := Lib.hid (Lex.ext_drew hW)
    clear hW hF z0 z1 z2
    go_wp2_with fail
    try simp only [Lex.onlyN]
    go_wp2_with fail
    go_ret
    have hflat : (r1.take p).flatMap jobV ++ jobV j ++ (r1.drop p).flatMap jobV = (r1.take p ++ [j] ++ r1.drop p).flatMap jobV := by
      rw [List.flatMap_append, List.flatMap_append]
      simp
    have hown := HOWN.out
    rw [hflat] at hown
    have hlen2 : (r1.take p ++ [j] ++ r1.drop p).length = n1 + 1 := by
      have := HL1.out
      simp
      omega
    refine ⟨A5, n1 + 1, c5, r1.take p ++ [j] ++ r1.drop p, rfl, ⟨hlen2, hown.mono fun i _ hi => Nat.le_trans HD0.out.size hi, (E1.out.trans HC.out.1).trans HEW.out⟩, ?_, fun hs => ?_⟩
    · have h1 : (r1.take p ++ [j] ++ r1.drop p).Perm (j :: (r1.take p ++ r1.drop p)) := by
        rw [List.append_assoc]
        exact List.perm_middle
      rw [List.take_append_drop] at h1
      rw [show without r (UrgP.key j) = r1 from HRR.out.symm]
      exact h1
    · refine ins_sorted (by rw [HRR.out]; exact hs.sublist List.filter_sublist) HC.out.2.1 (by rw [HL1.out]; exact hp) HC.out.2.2 fun x hx e => ?_
      rw [HRR.out] at hx
      have := (List.mem_filter.1 hx).2
      rw [e] at this
      simp at this
end Go.Proofs.Ytipmkddcdnbihaa.Urg
