/- An object is let be there, walked: commit. -/
import Derived.Test.YtfhgjopoohfhjaaTableI
namespace Go.Proofs.Ytfhgjopoohfhjaa.Tbl
open Go.RowKit Base Step Vec Shape Erase
/-- An object like an operation's. -/
structure Like (o : Op) (ob : Obj) : Prop where
  num : num ob = o.num
  name : name ob = o.name
  plan : plan ob = (o.l, o.c, o.p, ())
  len : (rows ob).length = o.rows.length
  alike : ∀ (i : Nat) (r r' : Row), o.rows[i]? = some r → (rows ob)[i]? = some r' → Alike r r'
theorem Copied.like {w w' : World} {o : Op} {ob : Obj} (h : Copied w w' (obOf o) ob) : Like o ob := ⟨h.num, h.name, h.plan, h.rlen, fun i r r' h1 h2 => (h.alike i r r' h1 h2).1⟩
theorem Copied.kind {w w' w2 : World} {o o' : Obj} {S : Nat → Prop} (h : Copied w w' o o') (hc : Chg S w' w2) (hk : ∀ i, S i → i < w'.heap.size → ∃ c f, w'.heap[i]? = some (.cells c 108 f)) (hn : ∀ i, S i → w.heap.size ≤ i) : Copied w w2 o o' := by
  have hk : ∀ e, e ≠ 108 → ∀ i, S i → i < w'.heap.size → ∃ c e' f, w'.heap[i]? = some (.cells c e' f) ∧ e ≠ e' := fun e he i hi hlt => by
    obtain ⟨c, f, hh⟩ := hk i hi hlt
    exact ⟨c, _, f, hh, he⟩
  exact ⟨h.num, h.name, h.plan, h.len, Own.kind h.prow hc (hk _ (by decide)), h.rlen, fun i r r' h1 h2 => ⟨(h.alike i r r' h1 h2).1, Own.kind (h.alike i r r' h1 h2).2 hc (hk _ (by decide))⟩, h.apart, h.ext.chg hc hn⟩
/-- What stands behind an object more. -/
def added (t : Tb) (i : Nat) (o : Op) (t' : Tb) : Prop := t'.nx = t.nx ∧ t'.ls = o.num ∧ ∃ ob, Like o ob ∧ t'.objs = t.objs.take i ++ [ob] ++ t.objs.drop i
open Classical in
/-- What commit answers. -/
noncomputable def commitC (sl nd : Nat) (t : Tb) (o : Op) : Int :=
  if ¬ (NameOk o.name ∧ PlanOk sl nd o) then 1
  else if there t.objs o.name = true ∨ 0 ≤ numAt t.objs o.num then 7
  else if o.num ≤ t.ls ∨ t.nx ≤ o.num then 28
  else if 64 ≤ t.n then 20 else 0
def CommitR (sl nd : Nat) (t : Tb) (o : Op) (w : World) (code : Int) (t' : Tb) : Prop := (code ≠ 0 → t' = t) ∧ (code = 0 → NameOk o.name ∧ PlanOk sl nd o ∧ added t (place t.objs o.name) o t')
theorem numAt_ne {objs : List Obj} {k : Int} (h : numAt objs k < 0) : ∀ o ∈ objs, num o ≠ k := by
  rcases numFrom_spec k objs 0 with ⟨_, h2⟩ | ⟨j, o, h1, _, _⟩
  · exact h2
  · unfold numAt at h
    omega
set_option maxRecDepth 100000 in
set_option maxHeartbeats 8000000 in
theorem commit_calls (gt sl nd : Nat) (t : Tb) (o : Op) (w : World) (h : TbAt w gt sl nd t) (hn : t.n ≤ 1099511627776) (hnd : nd ≤ 32) (ho : OpAt w o) :
    Calls Try.prog 126 #[.pointer (some ⟨gt, 0, none⟩), opV o] w (Did w gt sl nd (commitC sl nd t o) fun t' _ => CommitR sl nd t o w (commitC sl nd t o) t') := by
  obtain ⟨nx, ls, A, n, c, objs⟩ := t
  have hn : n ≤ 1099511627776 := hn
  obtain ⟨Q, hQ⟩ : ∃ Q, Q = Did w gt sl nd (commitC sl nd ⟨nx, ls, A, n, c, objs⟩ o) fun t' _ => CommitR sl nd ⟨nx, ls, A, n, c, objs⟩ o w (commitC sl nd ⟨nx, ls, A, n, c, objs⟩ o) t' := ⟨_, rfl⟩
  have HQ := Lib.hid hQ
  rw [← hQ]
  clear hQ
  have h : TblAt w gt sl nd nx ls A n c objs := h
  have e0 := Lib.hid (Ext.new w (.cells (opC o) 120))
  have hb := at_new w (.cells (opC o) 120)
  have H := Lib.hid h
  have HO := Lib.hid ho
  have hns := ho.name
  clear h ho
  -- an answer that leaves the table as it was
  have hno : ∀ (code : Int) (W : World), code ≠ 0 → commitC sl nd ⟨nx, ls, A, n, c, objs⟩ o = code → Ext w W → Q (.returned (.int .i64 code)) W := fun code W h0 hc he => by
    rw [HQ.out, hc]
    exact ⟨rfl, Below.chg he, ⟨nx, ls, A, n, c, objs⟩, H.out.ext he, fun _ => rfl, fun k => absurd k h0⟩
  have HNO := Lib.hid hno
  clear hno
  go_enter Try.func126, Try.ntmps126
  go_upto_region 1 with fail
  generalize w.alloc (.cells (opC o) 120) = w1 at *
  have b2 : w1.cell? ⟨w.heap.size, 2, none⟩ = some (.string o.name) := blk_cell (i := 2) hb (Ext.refl _) rfl
  have HB := Lib.hid hb
  clear hb
  go_wp2_with fail
  refine (rightName_calls o.name w1 hns).mono ?_
  rintro e w2 ⟨he2, b, rfl, hb2⟩
  have HE2 := Lib.hid (e0.out.trans he2)
  have HB2 := Lib.hid (he2.at_ HB.out)
  clear he2 b2
  cases b with
  | false =>
    have hcode : commitC sl nd ⟨nx, ls, A, n, c, objs⟩ o = 1 := by
      unfold commitC
      rw [if_pos]
      exact fun hh => by have := hb2.2 hh.1; cases this
    have HC := Lib.hid hcode
    clear hcode hb2
    go_wp2_with fail
    exact HNO.out 1 _ (by decide) HC.out HE2.out
  | true =>
    have HNAME := Lib.hid (hb2.1 rfl)
    clear hb2
    go_wp2_with (refine wpList_load_rowG rfl 120 _ rfl w.heap.size rfl 120 (opC o) (0, 0) _ HB2.out Try.underlying120 rfl (by kernel_rfl) ?_)
    refine (plan_calls gt sl nd nx ls A n c objs o w2 (H.out.ext HE2.out) (HO.out.ext HE2.out).rows hnd HO.out.few HO.out.each).mono ?_
    rintro e w3 ⟨he3, b, rfl, hb3⟩
    have HE3 := Lib.hid (HE2.out.trans he3)
    have HB3 := Lib.hid (he3.at_ HB2.out)
    clear he3
    cases b with
    | false =>
      have hcode : commitC sl nd ⟨nx, ls, A, n, c, objs⟩ o = 1 := by
        unfold commitC
        rw [if_pos]
        exact fun hh => by have := hb3.2 hh.2; cases this
      have HC := Lib.hid hcode
      clear hcode hb3
      go_wp2_with fail
      exact HNO.out 1 _ (by decide) HC.out HE3.out
    | true =>
      have HPLAN := Lib.hid (hb3.1 rfl)
      clear hb3
      have b2 : w3.cell? ⟨w.heap.size, 2, none⟩ = some (.string o.name) := blk_cell (i := 2) HB3.out (Ext.refl _) rfl
      go_wp2_with fail
      refine (index_calls gt sl nd nx ls A n c objs o.name w3 (H.out.ext HE3.out) hn).mono ?_
      rintro e w4 ⟨rfl, he4⟩
      have HE4 := Lib.hid (HE3.out.trans he4)
      have HB4 := Lib.hid (he4.at_ HB3.out)
      clear he4 b2
      have hok : ¬ ¬ (NameOk o.name ∧ PlanOk sl nd o) := fun k => k ⟨HNAME.out, HPLAN.out⟩
      have HOK := Lib.hid hok
      clear hok
      cases hth : there objs o.name with
      | true =>
        have hcode : commitC sl nd ⟨nx, ls, A, n, c, objs⟩ o = 7 := by
          unfold commitC
          rw [if_neg HOK.out, if_pos]
          exact .inl hth
        have HC := Lib.hid hcode
        clear hcode hth
        go_wp2_with fail
        exact HNO.out 7 _ (by decide) HC.out HE4.out
      | false =>
        have HTH := Lib.hid hth
        clear hth
        have b1 : w4.cell? ⟨w.heap.size, 1, none⟩ = some (.int .u32 o.num) := blk_cell (i := 1) HB4.out (Ext.refl _) rfl
        go_wp2_with fail
        refine (number_calls gt sl nd nx ls A n c objs o.num w4 (H.out.ext HE4.out) hn).mono ?_
        rintro e w5 ⟨rfl, he5⟩
        have HE5 := Lib.hid (HE4.out.trans he5)
        have HB5 := Lib.hid (he5.at_ HB4.out)
        clear he5 b1
        by_cases hnum : 0 ≤ numAt objs o.num
        · have hcode : commitC sl nd ⟨nx, ls, A, n, c, objs⟩ o = 7 := by
            unfold commitC
            rw [if_neg HOK.out, if_pos]
            exact .inr hnum
          have HC := Lib.hid hcode
          clear hcode
          go_wp2_with fail
          exact HNO.out 7 _ (by decide) HC.out HE5.out
        · have hno7 : ¬ (there objs o.name = true ∨ 0 ≤ numAt objs o.num) := fun k => k.elim (fun k => by rw [HTH.out] at k; cases k) hnum
          have HNO7 := Lib.hid hno7
          have HNUM := Lib.hid (numAt_ne (objs := objs) (k := o.num) (by omega))
          clear hno7
          have hat := (H.out.ext HE5.out).at_
          have b1 : w5.cell? ⟨w.heap.size, 1, none⟩ = some (.int .u32 o.num) := blk_cell (i := 1) HB5.out (Ext.refl _) rfl
          have t2 : w5.cell? ⟨gt, 2, none⟩ = some (.int .u32 nx) := blk_cell (i := 2) hat (Ext.refl _) rfl
          have t3 : w5.cell? ⟨gt, 3, none⟩ = some (.int .u32 ls) := blk_cell (i := 3) hat (Ext.refl _) rfl
          clear hat
          go_upto_region 6 with fail
          clear hnum
          by_cases hst : o.num ≤ ls ∨ nx ≤ o.num
          · have hcode : commitC sl nd ⟨nx, ls, A, n, c, objs⟩ o = 28 := by
              unfold commitC
              rw [if_neg HOK.out, if_neg HNO7.out, if_pos]
              exact hst
            have HC := Lib.hid hcode
            clear hcode
            by_cases h1 : o.num ≤ ls
            · have hd1 : decide (o.num ≤ ls) = true := by simp [h1]
              clear hst h1
              go_quiet (fail)
              go_wp2_with fail
              exact HNO.out 28 _ (by decide) HC.out (HE5.out.drewN _)
            · have hd1 : decide (o.num ≤ ls) = false := by simp [h1]
              have hd2 : decide (nx ≤ o.num) = true := by simp; omega
              clear hst h1
              go_quiet (fail)
              go_wp2_with fail
              exact HNO.out 28 _ (by decide) HC.out (HE5.out.drewN _)
          · have HST := Lib.hid hst
            have hd1 : decide (o.num ≤ ls) = false := by simp; omega
            have hd2 : decide (nx ≤ o.num) = false := by simp; omega
            clear hst
            go_quiet (fail)
            have HE6 := Lib.hid (HE5.out.drewN nq)
            have HB6 := Lib.hid ((Ext.drewN (Ext.refl w5) nq).at_ HB5.out)
            clear hd1 hd2 b1 t2 t3
            generalize w5.drewN nq = w6 at *
            have t4 : w6.cell? ⟨gt, 4, none⟩ = some (.slice A n c) := blk_cell (i := 4) (H.out.ext HE6.out).at_ (Ext.refl _) rfl
            by_cases hf : 64 ≤ n
            · have hcode : commitC sl nd ⟨nx, ls, A, n, c, objs⟩ o = 20 := by
                unfold commitC
                rw [if_neg HOK.out, if_neg HNO7.out, if_neg HST.out, if_pos]
                exact hf
              have HC := Lib.hid hcode
              clear hcode
              go_wp2_with fail
              exact HNO.out 20 _ (by decide) HC.out HE6.out
            · have hcode : commitC sl nd ⟨nx, ls, A, n, c, objs⟩ o = 0 := by
                unfold commitC
                rw [if_neg HOK.out, if_neg HNO7.out, if_neg HST.out, if_neg]
                exact hf
              have HC := Lib.hid hcode
              clear hcode
              have hnf : ¬ ((64 : Int) ≤ (n : Int)) := by omega
              go_upto_region 10 with fail
              clear t4 hnf
              have hpl : place objs o.name ≤ n := by
                have h1 := place_le objs o.name
                have h2 := (sl_len H.out.ok).1
                omega
              generalize hpp : place objs o.name = k at *
              have HPP := Lib.hid hpp
              clear hpp
              have H6 := Lib.hid (H.out.ext HE6.out)
              have HO6 := Lib.hid (HO.out.ext HE6.out)
              obtain ⟨hl, hnc, hcm, hA0⟩ := sl_len H6.out.ok
              have HL := Lib.hid hl
              have q4 : ∀ W, Ext w6.drew W → W.cell? ⟨gt, 4, none⟩ = some (.slice A n c) := fun W hW => blk_cell (i := 4) H6.out.at_ (drew_ext hW) rfl
              have p1 : ∀ W, Ext w6.drew W → W.cell? ⟨w.heap.size, 1, none⟩ = some (.int .u32 o.num) := fun W hW => blk_cell (i := 1) HB6.out (drew_ext hW) rfl
              have p2 : ∀ W, Ext w6.drew W → W.cell? ⟨w.heap.size, 2, none⟩ = some (.string o.name) := fun W hW => blk_cell (i := 2) HB6.out (drew_ext hW) rfl
              have p3 : ∀ W, Ext w6.drew W → W.cell? ⟨w.heap.size, 3, none⟩ = some (.int .i64 o.l) := fun W hW => blk_cell (i := 3) HB6.out (drew_ext hW) rfl
              have p4 : ∀ W, Ext w6.drew W → W.cell? ⟨w.heap.size, 4, none⟩ = some (.int .i64 o.c) := fun W hW => blk_cell (i := 4) HB6.out (drew_ext hW) rfl
              have p5 : ∀ W, Ext w6.drew W → W.cell? ⟨w.heap.size, 5, none⟩ = some (.int .i64 o.p) := fun W hW => blk_cell (i := 5) HB6.out (drew_ext hW) rfl
              have p6 : ∀ W, Ext w6.drew W → W.cell? ⟨w.heap.size, 6, none⟩ = some (.slice o.A o.n o.cap) := fun W hW => blk_cell (i := 6) HB6.out (drew_ext hW) rfl
              have hs1 : (rowF w6 108 6 n (cellsL objS objs)).St Ext := rowF_st
              have hs2 : (copL w6 (obOf o)).St Ext := copL_st
              have hs3 : (litL w6 (obOf o)).St Ext := litL_st
              refine Lex.wp_region_ord [0] [1, 2, 3, 4, 5, 6, 7, 8, 9, 10, 11, 12, 13, 14, 15, 16, 17] [18, 19, 20, 21] [(5, rowF w6 108 6 n (cellsL objS objs)), (16, copL w6 (obOf o)), (17, litL w6 (obOf o))] (by kernel_rfl) (by kernel_rfl) (by repeat (first | exact Lex.st_nil | refine Lex.st_cons (by assumption) ?_)) ?_
              simp only [Lex.pick, List.getElem?_cons_succ, List.getElem?_cons_zero, List.map_cons, List.map_nil]
              repeat (refine Lex.preL_cons (by rfl) ?_; apply Exists.intro; refine ⟨fun W => ?_, ?_⟩; (go_simp; try with_reducible rfl); simp only [Act.put, List.setIfInBounds_toArray, List.set_cons_zero, List.set_cons_succ])
              refine Lex.preL_nil ?_
              repeat (first | (refine Lex.lexH_skip (by rfl) ?_; simp only [Act.put, List.setIfInBounds_toArray, List.set_cons_zero, List.set_cons_succ]) | (refine Lex.lexH_still (by rfl) (by rfl) ?_; apply Exists.intro; refine ⟨fun W hW => ?_, ?_⟩; (have hE := hW.1; have hE2 := Base.Ext.trans (Base.Ext.drew (Base.Ext.refl _)) hW.1; clear hW; go_simp; try with_reducible rfl); simp only [Act.put, List.setIfInBounds_toArray, List.set_cons_zero, List.set_cons_succ]))
              refine Lex.lexH_loose (by rfl) (by rfl) (fun W hW => ?_) ?_
              · have hE := drew_ext hW.1
                clear hW
                go_simp
                refine (Clones.cloneObj A n c (cellsL objS objs) _ (by rw [cellsL_length, HL.out]; rfl) (fun h => by have := hA0 h; omega) (fun ad ha j u hu => hE.cell_ (ok_cells (Sh.ok_off H6.out.ok) (by decide) ad ha j u hu)) (cellsL_one_ _ _) (by omega)).mono ?_
                rintro e w8 ⟨he8, A8, c8, rfl, ho8⟩
                exact ⟨_, rfl, ⟨A8, c8, rfl⟩, he8, rowF_mk (ho8.mono fun i _ hi => Nat.le_trans hE.size hi)⟩
              rintro v ⟨A9, c9, rfl⟩
              simp only [Act.put, List.setIfInBounds_toArray, List.set_cons_zero, List.set_cons_succ]
              repeat (first | (refine Lex.lexH_skip (by rfl) ?_; simp only [Act.put, List.setIfInBounds_toArray, List.set_cons_zero, List.set_cons_succ]) | (refine Lex.lexH_still (by rfl) (by rfl) ?_; apply Exists.intro; refine ⟨fun W hW => ?_, ?_⟩; (have hE := hW.1; have hE2 := Base.Ext.trans (Base.Ext.drew (Base.Ext.refl _)) hW.1; clear hW; go_simp; try with_reducible rfl); simp only [Act.put, List.setIfInBounds_toArray, List.set_cons_zero, List.set_cons_succ]))
              refine Lex.lexH_loose (by rfl) (by rfl) (fun W hW => ?_) ?_
              · have hE := drew_ext hW.1
                clear hW
                go_simp
                refine (copied_calls (obOf o) _ (Sh.ok_ext hE _ _ (obOf_ok HO6.out)) HO.out.few HO.out.each).mono ?_
                rintro e w8 ⟨o', rfl, hcp⟩
                refine ⟨_, rfl, ⟨pA o', pC o', ?_⟩, hcp.ext, ⟨o', rfl, hcp.from hE⟩⟩
                rw [← hcp.num, ← hcp.name, ← hcp.plan, ← hcp.len]
              rintro v ⟨A10, c10, rfl⟩
              simp only [Act.put, List.setIfInBounds_toArray, List.set_cons_zero, List.set_cons_succ]
              repeat (first | (refine Lex.lexH_skip (by rfl) ?_; simp only [Act.put, List.setIfInBounds_toArray, List.set_cons_zero, List.set_cons_succ]) | (refine Lex.lexH_still (by rfl) (by rfl) ?_; apply Exists.intro; refine ⟨fun W hW => ?_, ?_⟩; (have hE := hW.1; have hE2 := Base.Ext.trans (Base.Ext.drew (Base.Ext.refl _)) hW.1; clear hW; go_simp; try with_reducible rfl); simp only [Act.put, List.setIfInBounds_toArray, List.set_cons_zero, List.set_cons_succ]))
              refine Lex.lexH_loose (by rfl) (by rfl) (fun W hW => ?_) ?_
              · have hE := drew_ext hW.1
                obtain ⟨o', he', hcp⟩ := Lex.upd_here (hW.2 16 (by kernel_rfl))
                clear hW
                go_simp
                refine ⟨⟨_, rfl⟩, Ext.new _ _, _, o', rfl, hE.size, ?_, hcp.ext_ (Ext.new _ _)⟩
                injection he' with he''
                have e2 : (objC o').toArray = _ := he''.symm
                rw [e2]
                exact at_new _ _
              rintro v ⟨g11, rfl⟩
              simp only [Act.put, List.setIfInBounds_toArray, List.set_cons_zero, List.set_cons_succ]
              repeat (first | (refine Lex.lexH_skip (by rfl) ?_; simp only [Act.put, List.setIfInBounds_toArray, List.set_cons_zero, List.set_cons_succ]) | (refine Lex.lexH_still (by rfl) (by rfl) ?_; apply Exists.intro; refine ⟨fun W hW => ?_, ?_⟩; (have hE := hW.1; have hE2 := Base.Ext.trans (Base.Ext.drew (Base.Ext.refl _)) hW.1; clear hW; go_simp; try with_reducible rfl); simp only [Act.put, List.setIfInBounds_toArray, List.set_cons_zero, List.set_cons_succ]))
              refine Lex.lexH_nil (fun W hW => ?_)
              have hE11 := drew_ext hW.1
              have hrow := (hW.2 5).1.1.2 rfl _ _ rfl
              obtain ⟨g12, o', hg12, hg0, hg11, hcp⟩ := (hW.2 17).2 rfl
              clear hW q4 p1 p2 p3 p4 p5 p6 hs1 hs2 hs3 hA0
              injection hg12 with hg12
              injection hg12 with hg12
              injection hg12 with hg12
              subst hg12
              have hne : k < n → (Value.slice A9 n c9).ownBlock ≠ some g11 := fun hk e => by
                obtain ⟨o0, ho0⟩ : ∃ o0, objs[0]? = some o0 := ⟨_, List.getElem?_eq_getElem (by rw [HL.out]; omega)⟩
                have hc0 : (cellsL objS objs)[0 * objS.size + 0]? = some (.int .u32 (num o0)) := by rw [cellsL_get ho0 (by decide)]; rfl
                obtain ⟨ad, hA, hcell⟩ := own_cell hrow hc0
                subst hA
                have hb : ad.block = g11 := by simpa [Value.ownBlock] using e
                obtain ⟨cur, h1, h2, _⟩ := own_at hrow
                rw [h1, hb] at hcell
                have hc2 : W.cell? ⟨g11, 0, none⟩ = some (.int .u32 (num o')) := blk_cell (i := 0) hg11 (Ext.refl _) rfl
                rw [Splice.add_zero_] at hcell
                have hcell : W.cell? ⟨g11, 0, none⟩ = some (.int .u32 (num o0)) := hcell
                rw [hc2] at hcell
                injection hcell with hcell
                injection hcell with _ hcell
                have := HNUM.out o0 (List.mem_of_getElem? ho0)
                have h3 : num o' = o.num := hcp.num
                omega
              have HNE := Lib.hid hne
              have HROW := Lib.hid hrow
              have HCP := Lib.hid hcp
              have HG11 := Lib.hid hg11
              have HE11 := Lib.hid hE11
              clear hne hrow hcp hg11 hE11
              go_wp2_with fail
              refine (Inserts.insertObj (fun i => w6.heap.size ≤ i) A9 n c9 k g11 (cellsL objS objs) (objC o') W HROW.out hpl HG11.out rfl HNE.out (Sh.cells_one objS o') (cellsL_one_ _ _) (by omega) (fun i hi => Nat.le_trans HE11.out.size hi)).mono ?_
              rintro e w12 ⟨A12, c12, rfl, ho12, hc12⟩
              have he12 : Ext w6 w12 := HE11.out.chg hc12 fun i hi => HROW.out.foot i hi
              have HE12 := Lib.hid he12
              have H12 := Lib.hid (H6.out.ext he12)
              have HB12 := Lib.hid (he12.at_ HB6.out)
              have hcp12 : Copied w6 w12 (obOf o) o' := HCP.out.kind hc12 (fun i hi _ => own_kind HROW.out hi) fun i hi => HROW.out.foot i hi
              have hcut : (cellsL objS objs).take (k * 6) ++ objC o' ++ (cellsL objS objs).drop (k * 6) = cellsL objS (objs.take k ++ [o'] ++ objs.drop k) := by
                rw [cellsL_app, cellsL_app, ← cellsL_take, ← cellsL_drop]
                simp [cellsL, Sh.size, Fs.size, obj_cells]
              rw [hcut] at ho12
              have HO12 := Lib.hid ho12
              have HCP12 := Lib.hid hcp12
              have f4 : w12.frozen? ⟨gt, 4, none⟩ = false := Pack.free_of H12.out.at_ 4
              have hsome : w12.cell? ⟨gt, 4, none⟩ = some (.slice A n c) := blk_cell (i := 4) H12.out.at_ (Ext.refl _) rfl
              have hneq : gt ≠ w.heap.size := fun e => by have := H.out.lt; omega
              clear ho12 he12 hc12 hcut hcp12
              go_wp2_with fail
              try simp only [Lex.onlyN]
              go_upto_region 11 with fail
              have hs13 := set_blk (w := w12) (i := 4) H12.out.at_ (.slice A12 (n + 1) c12)
              have hc13 : Chg (fun i => i = gt) w12 (w12.setCell ⟨gt, 4, none⟩ (.slice A12 (n + 1) c12)) := (Chg.refl (fun i => i = gt) w12).setCell (p := ⟨gt, 4, none⟩) rfl _
              generalize w12.setCell ⟨gt, 4, none⟩ (.slice A12 (n + 1) c12) = w13 at *
              have b1 : w13.cell? ⟨w.heap.size, 1, none⟩ = some (.int .u32 o.num) := blk_cell (i := 1) (hc13.at_ HB12.out (Ne.symm hneq)) (Ext.refl _) rfl
              have t3 : w13.cell? ⟨gt, 3, none⟩ = some (.int .u32 ls) := blk_cell (i := 3) hs13 (Ext.refl _) (by simp)
              have f3 : w13.frozen? ⟨gt, 3, none⟩ = false := Pack.free_of hs13 3
              have HS13 := Lib.hid hs13
              have HC13 := Lib.hid hc13
              clear hs13 hc13 f4 hsome
              go_wp2_with fail
              rw [HQ.out, HC.out]
              have hs14 := set_blk (w := w13) (i := 3) HS13.out (.int .u32 o.num)
              have hc14 : Chg (fun i => i = gt) w12 (w13.setCell ⟨gt, 3, none⟩ (.int .u32 o.num)) := HC13.out.setCell (p := ⟨gt, 3, none⟩) rfl _
              have hok := new_objs (gt := gt) (objs := objs.take k ++ [o'] ++ objs.drop k) H6.out.lt HO12.out (by simp [HL.out]; omega) fun x hx => by
                rcases List.mem_append.1 hx with hx | hx
                · rcases List.mem_append.1 hx with hx | hx
                  · exact objs_ext H12.out.ok (Ext.refl _) x (List.mem_of_mem_take hx)
                  · have hx : x = o' := by simpa using hx
                    subst hx
                    exact HCP12.out.ok (obOf_ok HO6.out) H6.out.lt
                · exact objs_ext H12.out.ok (Ext.refl _) x (List.mem_of_mem_drop hx)
              exact ⟨rfl, ext_chg (HE6.out.trans HE12.out) hc14, ⟨nx, o.num, A12, n + 1, c12, _⟩, TblAt.put hc14 (by simpa using hs14) hok, fun h => absurd rfl h, fun _ => ⟨HNAME.out, HPLAN.out, rfl, rfl, o', HCP12.out.like, by rw [show place objs o.name = k from HPP.out]⟩⟩
end Go.Proofs.Ytfhgjopoohfhjaa.Tbl
