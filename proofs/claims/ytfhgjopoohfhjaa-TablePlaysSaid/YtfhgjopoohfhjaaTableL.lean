/- A slot's shard is let be elsewhere, walked. -/
import Derived.Test.YtfhgjopoohfhjaaTableK
namespace Go.Proofs.Ytfhgjopoohfhjaa.Tbl
open Go.RowKit Base Step Vec Shape Erase
set_option maxRecDepth 100000 in
set_option maxHeartbeats 8000000 in
theorem move_calls (gt sl nd : Nat) (t : Tb) (o : Op) (w : World) (h : TbAt w gt sl nd t) (hn : t.n ≤ 1099511627776) (hnd : nd ≤ 32) (hs : ∀ ob ∈ t.objs, Small ob) (hr : ∀ ob ∈ t.objs, ∀ r ∈ rows ob, rN r = sl) (ho : OpAt w o) :
    Calls Try.prog 128 #[.pointer (some ⟨gt, 0, none⟩), opV o] w (Did w gt sl nd (moveC sl nd t o) fun t' _ => MoveR sl nd t o (moveC sl nd t o) t') := by
  obtain ⟨nx, ls, A, n, c, objs⟩ := t
  have hn : n ≤ 1099511627776 := hn
  obtain ⟨Q, hQ⟩ : ∃ Q, Q = Did w gt sl nd (moveC sl nd ⟨nx, ls, A, n, c, objs⟩ o) fun t' _ => MoveR sl nd ⟨nx, ls, A, n, c, objs⟩ o (moveC sl nd ⟨nx, ls, A, n, c, objs⟩ o) t' := ⟨_, rfl⟩
  have HQ := Lib.hid hQ
  rw [← hQ]
  clear hQ
  have h : TblAt w gt sl nd nx ls A n c objs := h
  have e0 := Lib.hid (Ext.new w (.cells (opC o) 120))
  have hb := at_new w (.cells (opC o) 120)
  have H := Lib.hid h
  have HO := Lib.hid ho
  have HS : Hid (∀ ob ∈ objs, Small ob) := Lib.hid hs
  have HR : Hid (∀ ob ∈ objs, ∀ r ∈ rows ob, rN r = sl) := Lib.hid hr
  clear h ho hs hr
  -- an answer that leaves the table as it was
  have hno : ∀ (code : Int) (W : World), code ≠ 0 → moveC sl nd ⟨nx, ls, A, n, c, objs⟩ o = code → Ext w W → Q (.returned (.int .i64 code)) W := fun code W h0 hc he => by
    rw [HQ.out, hc]
    exact ⟨rfl, Below.chg he, ⟨nx, ls, A, n, c, objs⟩, H.out.ext he, fun _ => rfl, fun k => absurd k h0⟩
  have HNO := Lib.hid hno
  clear hno
  go_enter Try.func128, Try.ntmps128
  go_upto_region 1 with fail
  generalize w.alloc (.cells (opC o) 120) = w1 at *
  have b1 : w1.cell? ⟨w.heap.size, 1, none⟩ = some (.int .u32 o.num) := blk_cell (i := 1) hb (Ext.refl _) rfl
  have HB := Lib.hid hb
  clear hb
  go_wp2_with fail
  refine (number_calls gt sl nd nx ls A n c objs o.num w1 (H.out.ext e0.out) hn).mono ?_
  rintro e w2 ⟨rfl, he2⟩
  have HE2 := Lib.hid (e0.out.trans he2)
  have hb2 := he2.at_ HB.out
  have HB2 := Lib.hid hb2
  have H2 := Lib.hid (H.out.ext HE2.out)
  have hat2 := H2.out.at_
  clear he2 b1
  have b7 : w2.cell? ⟨w.heap.size, 7, none⟩ = some (.int .i64 o.stripe) := blk_cell (i := 7) hb2 (Ext.refl _) rfl
  have b8 : w2.cell? ⟨w.heap.size, 8, none⟩ = some (.int .i64 o.slot) := blk_cell (i := 8) hb2 (Ext.refl _) rfl
  have t0 : w2.cell? ⟨gt, 0, none⟩ = some (.int .i64 sl) := blk_cell (i := 0) hat2 (Ext.refl _) rfl
  have t4 : w2.cell? ⟨gt, 4, none⟩ = some (.slice A n c) := blk_cell (i := 4) hat2 (Ext.refl _) rfl
  clear hb2 hat2
  go_upto_region 2 with fail
  rcases numFrom_spec o.num objs 0 with ⟨hk0, _⟩ | ⟨k, ob, hk0, hob, hobn⟩
  · have hk0 : numAt objs o.num = -1 := hk0
    have hcode : moveC sl nd ⟨nx, ls, A, n, c, objs⟩ o = 6 := by
      unfold moveC
      rw [if_pos]
      exact .inl (by show numAt objs o.num < 0; omega)
    have HC := Lib.hid hcode
    clear hcode
    rw [hk0]
    have hd1 : decide ((-1 : Int) < 0) = true := rfl
    clear hk0
    go_quiet (fail)
    go_wp2_with fail
    exact HNO.out 6 _ (by decide) HC.out (HE2.out.drewN _)
  · have hk0 : numAt objs o.num = (k : Nat) := by rw [← Nat.zero_add k]; exact hk0
    have hln := (sl_len H2.out.ok).1
    have hkn : k < n := by have := (List.getElem?_eq_some_iff.1 hob).1; omega
    obtain ⟨ad, ob', hA, hob', hat, hobk⟩ := obj_at (Sh.ok_off H2.out.ok) hkn
    subst hA
    rw [hob] at hob'
    cases hob'
    have hnc : n ≤ c := (sl_len H2.out.ok).2.1
    have HAT := Lib.hid hat
    obtain ⟨c0, c1, c2, c3, c4, c5⟩ := hat
    have HK := Lib.hid hk0
    have HOB := Lib.hid hob
    have HOBK := Lib.hid hobk
    have hidx : objs[(numAt objs o.num).toNat]? = some ob := by rw [hk0]; exact hob
    have HIDX := Lib.hid hidx
    rw [hk0]
    clear hob hobk hobn hidx hk0 c0 c1 c2 c3 c4
    have hpm : pN ob ≤ 1099511627776 := (HS.out ob (List.mem_of_getElem? HOB.out)).1
    have hd1 : decide (((k : Nat) : Int) < 0) = false := by simp
    by_cases hbad : o.stripe < 0 ∨ (pN ob : Int) ≤ o.stripe ∨ o.slot < 0 ∨ (sl : Int) ≤ o.slot
    · have hcode : moveC sl nd ⟨nx, ls, some ad, n, c, objs⟩ o = 6 := by
        unfold moveC
        rw [if_pos]
        rcases hbad with h | h | h | h
        · exact .inr (.inl h)
        · refine .inr (.inr (.inl fun ob2 h2 => ?_))
          have h2 : objs[(numAt objs o.num).toNat]? = some ob2 := h2
          rw [HIDX.out] at h2
          cases h2
          exact h
        · exact .inr (.inr (.inr (.inl h)))
        · exact .inr (.inr (.inr (.inr h)))
      have HC := Lib.hid hcode
      clear hcode
      by_cases h1 : o.stripe < 0
      · have hd2 : decide (o.stripe < 0) = true := by simp [h1]
        clear hbad h1
        go_quiet (fail)
        go_wp2_with fail
        exact HNO.out 6 _ (by decide) HC.out (HE2.out.drewN _)
      · have hd2 : decide (o.stripe < 0) = false := by simp [h1]
        by_cases h2 : (pN ob : Int) ≤ o.stripe
        · have hd3 : decide ((pN ob : Int) ≤ o.stripe) = true := by simp [h2]
          clear hbad h1 h2
          go_quiet (fail)
          go_wp2_with fail
          exact HNO.out 6 _ (by decide) HC.out (HE2.out.drewN _)
        · have hd3 : decide ((pN ob : Int) ≤ o.stripe) = false := by simp; omega
          by_cases h3 : o.slot < 0
          · have hd4 : decide (o.slot < 0) = true := by simp [h3]
            clear hbad h1 h2 h3
            go_quiet (fail)
            go_wp2_with fail
            exact HNO.out 6 _ (by decide) HC.out (HE2.out.drewN _)
          · have hd4 : decide (o.slot < 0) = false := by simp [h3]
            have hd5 : decide ((sl : Int) ≤ o.slot) = true := by simp; omega
            clear hbad h1 h2 h3
            go_quiet (fail)
            go_wp2_with fail
            exact HNO.out 6 _ (by decide) HC.out (HE2.out.drewN _)
    · have hd2 : decide (o.stripe < 0) = false := by simp; omega
      have hd3 : decide ((pN ob : Int) ≤ o.stripe) = false := by simp; omega
      have hd4 : decide (o.slot < 0) = false := by simp; omega
      have hd5 : decide ((sl : Int) ≤ o.slot) = false := by simp; omega
      have HGOOD := Lib.hid hbad
      clear hbad
      go_quiet (fail)
      have HE3 := Lib.hid (HE2.out.drewN nq)
      have HB3 := Lib.hid ((Ext.drewN (Ext.refl w2) nq).at_ HB2.out)
      have H3 := Lib.hid (H2.out.ext (Ext.drewN (Ext.refl w2) nq))
      have HAT3 := Lib.hid (HAT.out.ext (Ext.drewN (Ext.refl w2) nq))
      have HOBK3 := Lib.hid (Sh.ok_ext (Ext.drewN (Ext.refl w2) nq) _ _ HOBK.out)
      clear hd1 hd2 hd3 hd4 hd5 b7 b8 t0 t4 c5 HAT HOBK H2 HB2
      generalize w2.drewN nq = w3 at *
      obtain ⟨j, hj⟩ : ∃ j : Nat, o.stripe = j := ⟨o.stripe.toNat, by have := HGOOD.out; omega⟩
      obtain ⟨q, hq⟩ : ∃ q : Nat, o.slot = q := ⟨o.slot.toNat, by have := HGOOD.out; omega⟩
      have hjp : j < pN ob := by have := HGOOD.out; omega
      have hqs : q < sl := by have := HGOOD.out; omega
      have HJ := Lib.hid hj
      have HQQ := Lib.hid hq
      clear hj hq
      have hb3 := HB3.out
      unfold opC at hb3
      rw [HJ.out, HQQ.out] at hb3
      have HB3' := Lib.hid hb3
      clear hb3
      obtain ⟨c0, c1, c2, c3, c4, c5⟩ := HAT3.out
      have t4 : w3.cell? ⟨gt, 4, none⟩ = some (.slice (some ad) n c) := blk_cell (i := 4) H3.out.at_ (Ext.refl _) rfl
      have hsm := HS.out ob (List.mem_of_getElem? HOB.out)
      have HSM := Lib.hid hsm
      clear hsm
      go_wp2_with fail
      refine (copied_calls ob w3 HOBK3.out HSM.out.1 HSM.out.2).mono ?_
      rintro e w4 ⟨o', rfl, hcp⟩
      have HCP4 := Lib.hid hcp
      clear hcp c0 c1 c2 c3 c4 c5 t4
      go_upto_region 5 with (refine RowSt.wpList_put 108 _ _ rfl rfl rfl w4.heap.size #[.int .u32 (num o'), .string (name o'), .int .i64 (plan o').1, .int .i64 (plan o').2.1, .int .i64 (plan o').2.2.1, .slice (pA o') (pN o') (pC o')] rfl rfl 108 _ (at_new w4 _) (by kernel_rfl) rfl (by simp [Value.oneCell']) ?_; intro w5 hb5 hc5)
      have hE35 : Ext w3 w5 := (HCP4.out.ext.trans (Ext.new w4 _)).chg hc5 fun i hi => by have := HCP4.out.ext.size; have hi : i = w4.heap.size := hi; omega
      have hcp5 : Copied w3 w5 ob o' := (HCP4.out.ext_ (Ext.new w4 _)).put (at_new w4 _) hc5 HCP4.out.ext.size
      have hbx5 : w.heap.size < w4.heap.size := by have := HCP4.out.ext.size; have := Pack.lt_of_at HB3.out; omega
      have HBX := Lib.hid hbx5
      have hb35 := hE35.at_ HB3'.out
      have HB5 := Lib.hid hb5
      have HE35 := Lib.hid hE35
      have HCP5 := Lib.hid hcp5
      have HOP5 := Lib.hid hb35
      clear hc5 hE35 hcp5 HCP4 hbx5
      generalize w4.heap.size = bx at *
      -- the row
      have hrl := (obj_ok HOBK3.out).2.2.2
      have hrl2 : (rows ob).length = pN ob := (sl_len hrl).1
      obtain ⟨r, hr0⟩ : ∃ r, (rows ob)[j]? = some r := ⟨_, List.getElem?_eq_getElem (by omega)⟩
      obtain ⟨r', hr1⟩ : ∃ r', (rows o')[j]? = some r' := ⟨_, List.getElem?_eq_getElem (by rw [HCP5.out.rlen]; omega)⟩
      obtain ⟨⟨ha1, ha2⟩, hrn⟩ := HCP5.out.alike j r r' hr0 hr1
      have hrsl : rN r = sl := HR.out ob (List.mem_of_getElem? HOB.out) r (List.mem_of_getElem? hr0)
      have hrn1 : rN r' = sl := by rw [ha1, hrsl]
      have hrok : (Sh.sl plS).ok w3 (rA r, rN r, rC r, rP r) := sl_each hrl hr0
      have hrpl : (rP r').length = sl := by rw [ha2, (sl_len hrok).1, hrsl]
      obtain ⟨p, hp⟩ : ∃ p, (rP r')[q]? = some p := ⟨_, List.getElem?_eq_getElem (by omega)⟩
      obtain ⟨adp, hpA, hcell⟩ := own_cell HCP5.out.prow (j := j) (cellsL_one hr1)
      have hpn : pN o' = pN ob := HCP5.out.len
      have hc0 : (cellsL plS (rP r'))[q * plS.size + 0]? = some (.int .i64 (node p)) := by rw [cellsL_get hp (by decide)]; rfl
      have hc1 : (cellsL plS (rP r'))[q * plS.size + 1]? = some (.int .u32 (gen p)) := by rw [cellsL_get hp (by decide)]; rfl
      obtain ⟨a2, hrA, hcell0⟩ := own_cell hrn hc0
      obtain ⟨a2', hrA', hcell1⟩ := own_cell hrn hc1
      rw [hrA] at hrA'
      cases hrA'
      have hrn2 : New w3 w5 118 2 (some a2) sl (rC r') (cellsL plS (rP r')) := by rw [← hrA, ← hrn1]; exact hrn
      obtain ⟨g2, cur2, rfl, hg2, hnc2, hcm2, hcs2, hcx2, hS2, hl2⟩ := Splice.blk_own hrn2
      rw [Splice.add_zero_] at hcell0 hcell1
      have hcell0 : w5.cell? ⟨g2, q * 2, none⟩ = some (.int .i64 (node p)) := by simpa [Sh.size, Fs.size] using hcell0
      have hcell1 : w5.cell? ⟨g2, q * 2 + 1, none⟩ = some (.int .u32 (gen p)) := by simpa [Sh.size, Fs.size] using hcell1
      rw [hpA] at hb5
      have x5 : w5.cell? ⟨bx, 5, none⟩ = some (.slice (some adp) (pN o') (pC o')) := blk_cell (i := 5) hb5 (Ext.refl _) rfl
      rw [hpn] at x5
      rw [hrA, hrn1] at hcell
      have b7 : w5.cell? ⟨w.heap.size, 7, none⟩ = some (.int .i64 (j : Nat)) := blk_cell (i := 7) hb35 (Ext.refl _) rfl
      have b8 : w5.cell? ⟨w.heap.size, 8, none⟩ = some (.int .i64 (q : Nat)) := blk_cell (i := 8) hb35 (Ext.refl _) rfl
      have hji : ((j : Nat) : Int) < ((pN ob : Nat) : Int) := by omega
      have hqi : ((q : Nat) : Int) < ((sl : Nat) : Int) := by omega
      have HR0 := Lib.hid hr0
      have HR1 := Lib.hid hr1
      have HRN2 := Lib.hid hrn2
      have HG2 := Lib.hid hg2
      have HA2 := Lib.hid ha2
      have HRA := Lib.hid hrA
      have HRN1 := Lib.hid hrn1
      have HP := Lib.hid hp
      have HRPL := Lib.hid hrpl
      clear hr0 hr1 hrn hrn2 hg2 ha1 ha2 hrA hrn1 hp hrpl hc0 hc1 hcx2 hl2 hS2 hrok hrl hb5 hb35 hrsl hrl2 hpA hpn
      go_upto_region 7 with fail
      have hE6 := Ext.new w5 (.cells #[.int .i64 (node p), .int .u32 (gen p)] 118)
      have hwp := at_new w5 (.cells #[.int .i64 (node p), .int .u32 (gen p)] 118)
      have hg6 := hE6.at_ HG2.out
      have hop6 := hE6.at_ HOP5.out
      have hE6' := Lib.hid hE6
      have hg2lt : g2 < w5.heap.size := Pack.lt_of_at HG2.out
      have hbplt : w.heap.size < w5.heap.size := Pack.lt_of_at HOP5.out
      clear hcell hcell0 hcell1 x5 b7 b8 hE6
      generalize w5.alloc (.cells #[.int .i64 (node p), .int .u32 (gen p)] 118) = w6 at *
      generalize hwpp : w5.heap.size = wp at *
      have b8 : w6.cell? ⟨w.heap.size, 8, none⟩ = some (.int .i64 (q : Nat)) := blk_cell (i := 8) hop6 (Ext.refl _) rfl
      have b9 : w6.cell? ⟨w.heap.size, 9, none⟩ = some (.int .i64 o.node) := blk_cell (i := 9) hop6 (Ext.refl _) rfl
      have b10 : w6.cell? ⟨w.heap.size, 10, none⟩ = some (.int .u32 o.gen) := blk_cell (i := 10) hop6 (Ext.refl _) rfl
      have HG6 := Lib.hid hg6
      have HOP6 := Lib.hid hop6
      have HWP := Lib.hid hwp
      have hmul : q * 2 + 2 ≤ rC r' * 2 := by have := hnc2; omega
      clear hg6 hop6 hwp
      go_upto_region 8 with (refine Splice.wpList_storeB 118 _ _ rfl rfl rfl g2 (q * 2) #[.int .i64 o.node, .int .u32 o.gen] rfl rfl 118 cur2 HG6.out (by kernel_rfl) (by rw [hcs2]; exact hmul) (by simp [Value.oneCell']) ?_; intro w7 hg7 hc7)
      have hg2w3 : w3.heap.size ≤ g2 := by have := HRN2.out.foot g2 rfl; exact this
      have hE36 := HE35.out.trans hE6'.out
      have hE37 : Ext w3 w7 := hE36.chg hc7 fun i hi => by rw [hi]; exact hg2w3
      have HE37 := Lib.hid hE37
      have hwlt3 : w.heap.size < w3.heap.size := Pack.lt_of_at HB3.out
      have hwp7 := hc7.at_ HWP.out (fun e => by have e : wp = g2 := e; omega)
      have hop7 := hc7.at_ HOP6.out (fun e => by have e : w.heap.size = g2 := e; omega)
      have hown6 : New w3 w6 118 2 (some ⟨g2, 0, none⟩) sl (rC r') (cellsL plS (rP r')) := Own.extNew HRN2.out hE6'.out
      have hsl2 : (cellsL plS (rP r')).length = sl * 2 := by rw [cellsL_length, HRPL.out]; rfl
      have hput : Splice.putAt (cellsL plS (rP r')) (q * 2) [.int .i64 o.node, .int .u32 o.gen] = cellsL plS ((rP r').set q (pl o.node o.gen)) := cellsL_put (e := plS) (x := pl o.node o.gen) (by rw [HRPL.out]; omega)
      have hown7 : New w3 w7 118 2 (some ⟨g2, 0, none⟩) sl (rC r') (cellsL plS ((rP r').set q (pl o.node o.gen))) := by
        have := Splice.own_store (o := q * 2) hown6 HG6.out (by show q * 2 + 2 ≤ sl * 2; omega) hg7
        rwa [hput] at this
      have hplok : ∀ W, plS.ok W (pl o.node o.gen) := fun W => ⟨HO.out.node, HO.out.gen, trivial⟩
      have hst5 := HCP5.out.stood HOBK3.out
      have hst6 := hst5.ext hE6'.out
      have heach : ∀ x ∈ (rP r').set q (pl o.node o.gen), ∀ W, plS.ok W x := fun x hx => by
        rcases List.mem_or_eq_of_mem_set hx with hx | hx
        · exact (hst6.each r' (List.mem_of_getElem? HR1.out)).2.2 x hx
        · rw [hx]; exact hplok
      have hstx : Stood w3 w7 (setRow o' j (mkRow (some ⟨g2, 0, none⟩) sl (rC r') ((rP r').set q (pl o.node o.gen)))) :=
        hst6.set HCP5.out.apart HR1.out HRA.out.symm HRN1.out.symm rfl HRA.out hc7 ⟨_, _, HG6.out⟩ hown7 (by show ((rP r').set q _).length = sl; rw [List.length_set]; exact HRPL.out) heach
      have hrowok : (Sh.sl plS).ok w7 (some ⟨g2, 0, none⟩, sl, rC r', (rP r').set q (pl o.node o.gen)) :=
        ok_own (W := w7) (e := plS) hown7 (by decide) (by rw [List.length_set]; exact HRPL.out) (fun x hx => heach x hx _) (fun a v _ hc => hc) (own_max hown7)
      have hsl40 : sl ≤ 8796093021952 := by
        have := HSM.out.2 r (List.mem_of_getElem? HR0.out)
        rw [HR.out ob (List.mem_of_getElem? HOB.out) r (List.mem_of_getElem? HR0.out)] at this
        exact this
      have hjt : o.stripe.toNat = j := by rw [HJ.out]; rfl
      have hqt : o.slot.toNat = q := by rw [HQQ.out]; rfl
      have hrow : rowOf ⟨nx, ls, some ad, n, c, objs⟩ o = rP r' := by
        unfold rowOf
        dsimp only
        rw [HIDX.out]
        dsimp only
        rw [hjt, HR0.out, HA2.out]
      have hto : toRow ⟨nx, ls, some ad, n, c, objs⟩ o = (rP r').set q (pl o.node o.gen) := by unfold toRow; rw [hrow, hqt]
      have hnbad : ¬ badMove sl ⟨nx, ls, some ad, n, c, objs⟩ o := by
        intro hb
        have hg := HGOOD.out
        rcases hb with h | h | h | h | h
        · have h : numAt objs o.num < 0 := h
          rw [HK.out] at h
          omega
        · exact hg (.inl h)
        · exact hg (.inr (.inl (h ob HIDX.out)))
        · exact hg (.inr (.inr (.inl h)))
        · exact hg (.inr (.inr (.inr h)))
      have HSTX := Lib.hid hstx
      have HROK := Lib.hid hrowok
      have HROW := Lib.hid hrow
      have HTO := Lib.hid hto
      have HNB := Lib.hid hnbad
      have HQT := Lib.hid hqt
      have HJT := Lib.hid hjt
      have HWP7 := Lib.hid hwp7
      have HOP7 := Lib.hid hop7
      have H7 := Lib.hid (H3.out.ext hE37)
      have HX7 := Lib.hid ((hc7.at_ (hE6'.out.at_ HB5.out) (fun e => by have e : bx = g2 := e; have h1 := HB5.out; have h2 := HG2.out; rw [e, h2] at h1; cases h1)))
      clear hg7 hc7 hE36 hE37 hwp7 hop7 hown6 hsl2 hput hown7 hplok hst5 hst6 heach hstx hrowok hjt hqt hrow hto hnbad b8 b9 b10 hwpp
      go_wp2_with fail
      refine (right_calls gt sl nd nx ls (some ad) n c objs (some ⟨g2, 0, none⟩) sl (rC r') ((rP r').set q (pl o.node o.gen)) w7 H7.out HROK.out hnd hsl40).mono ?_
      rintro e w8 ⟨he8, b, rfl, hb8⟩
      have HE38 := Lib.hid (HE37.out.trans he8)
      have HE8 := Lib.hid he8
      have HB8 := Lib.hid hb8
      clear he8 hb8
      cases b with
      | false =>
        have hcode : moveC sl nd ⟨nx, ls, some ad, n, c, objs⟩ o = 1 := by
          unfold moveC
          rw [if_neg HNB.out, if_pos]
          rw [HTO.out]
          exact fun hh => by have := HB8.out.2 hh; cases this
        have HC := Lib.hid hcode
        clear hcode
        go_wp2_with fail
        exact HNO.out 1 _ (by decide) HC.out (HE3.out.trans HE38.out)
      | true =>
        have HRIGHT := Lib.hid (HB8.out.1 rfl)
        have o10 : w8.cell? ⟨w.heap.size, 10, none⟩ = some (.int .u32 o.gen) := blk_cell (i := 10) (HE8.out.at_ HOP7.out) (Ext.refl _) rfl
        have p1 : w8.cell? ⟨wp, 1, none⟩ = some (.int .u32 (gen p)) := blk_cell (i := 1) (HE8.out.at_ HWP7.out) (Ext.refl _) rfl
        by_cases hgen : o.gen ≤ gen p
        · have hcode : moveC sl nd ⟨nx, ls, some ad, n, c, objs⟩ o = 28 := by
            unfold moveC
            rw [if_neg HNB.out, if_neg (by rw [HTO.out]; exact fun k => k HRIGHT.out), if_pos]
            rw [HROW.out, HQT.out]
            exact ⟨p, HP.out, hgen⟩
          have HC := Lib.hid hcode
          clear hcode
          go_wp2_with fail
          exact HNO.out 28 _ (by decide) HC.out (HE3.out.trans HE38.out)
        · have hcode : moveC sl nd ⟨nx, ls, some ad, n, c, objs⟩ o = 0 := by
            unfold moveC
            rw [if_neg HNB.out, if_neg (by rw [HTO.out]; exact fun k => k HRIGHT.out), if_neg]
            rw [HROW.out, HQT.out]
            rintro ⟨p2, hp2, h2⟩
            rw [HP.out] at hp2
            cases hp2
            exact hgen h2
          have HC := Lib.hid hcode
          clear hcode
          have H8 := Lib.hid (H7.out.ext HE8.out)
          have t4 : w8.cell? ⟨gt, 4, none⟩ = some (.slice (some ad) n c) := blk_cell (i := 4) H8.out.at_ (Ext.refl _) rfl
          have hlo := (sl_len H8.out.ok).1
          have HLO := Lib.hid hlo
          clear hlo
          go_wp2_with fail
          refine (Clones.cloneObj (some ad) n c (cellsL objS objs) w8 (by rw [cellsL_length, HLO.out]; rfl) (fun h => by cases h) (fun ad' ha j u hu => ok_cells (Sh.ok_off H8.out.ok) (by decide) ad' ha j u hu) (cellsL_one_ _ _) (by omega)).mono ?_
          rintro e w9 ⟨he9, A9, c9, rfl, ho9⟩
          have H9 := Lib.hid (H8.out.ext he9)
          have f4 : w9.frozen? ⟨gt, 4, none⟩ = false := Pack.free_of H9.out.at_ 4
          have t4' : w9.cell? ⟨gt, 4, none⟩ = some (.slice (some ad) n c) := blk_cell (i := 4) H9.out.at_ (Ext.refl _) rfl
          have HE9 := Lib.hid he9
          have HO9 := Lib.hid ho9
          clear he9 ho9 o10 p1 t4
          go_upto_region 13 with fail
          have hs10 := set_blk (w := w9) (i := 4) H9.out.at_ (.slice A9 n c9)
          have hc10 : Chg (fun i => i = gt) w9 (w9.setCell ⟨gt, 4, none⟩ (.slice A9 n c9)) := (Chg.refl (fun i => i = gt) w9).setCell (p := ⟨gt, 4, none⟩) rfl _
          generalize w9.setCell ⟨gt, 4, none⟩ (.slice A9 n c9) = w10 at *
          have hgt3 : gt < w3.heap.size := H3.out.lt
          have hw8 : w3.heap.size ≤ w8.heap.size := HE38.out.size
          have hx9 := HE9.out.at_ (HE8.out.at_ HX7.out)
          have hbxg : bx ≠ gt := fun e => by
            have h1 := H9.out.at_
            rw [← e, hx9] at h1
            cases h1
          have hx10 := hc10.at_ hx9 hbxg
          have hn0 : 0 < n := by omega
          rcases A9 with _ | ad9
          · have := Splice.own_none HO9.out
            omega
          obtain ⟨g9, cur9, rfl, hg9, hnc9, hcm9, hcs9, hcx9, hS9, hl9⟩ := Splice.blk_own HO9.out
          have hS9 : w8.heap.size ≤ g9 := hS9
          have hg9gt : g9 ≠ gt := by omega
          have hg10 := hc10.at_ hg9 hg9gt
          have hown10 : Own w10 (fun i => w8.heap.size ≤ i) 108 6 (.slice (some ⟨g9, 0, none⟩) n c9) n (cellsL objS objs) := HO9.out.chg hc10 fun i hi e => by have hi : w8.heap.size ≤ i := hi; have e : i = gt := e; omega
          have q4 : ∀ W, Ext w10.drew W → W.cell? ⟨gt, 4, none⟩ = some (.slice (some ⟨g9, 0, none⟩) n c9) := fun W hW => blk_cell (i := 4) hs10 (drew_ext hW) (by simp)
          have x0 : ∀ W, Ext w10.drew W → W.cell? ⟨bx, 0, none⟩ = some (.int .u32 (num o')) := fun W hW => blk_cell (i := 0) hx10 (drew_ext hW) rfl
          have x1 : ∀ W, Ext w10.drew W → W.cell? ⟨bx, 1, none⟩ = some (.string (name o')) := fun W hW => blk_cell (i := 1) hx10 (drew_ext hW) rfl
          have x2 : ∀ W, Ext w10.drew W → W.cell? ⟨bx, 2, none⟩ = some (.int .i64 (plan o').1) := fun W hW => blk_cell (i := 2) hx10 (drew_ext hW) rfl
          have x3 : ∀ W, Ext w10.drew W → W.cell? ⟨bx, 3, none⟩ = some (.int .i64 (plan o').2.1) := fun W hW => blk_cell (i := 3) hx10 (drew_ext hW) rfl
          have x4 : ∀ W, Ext w10.drew W → W.cell? ⟨bx, 4, none⟩ = some (.int .i64 (plan o').2.2.1) := fun W hW => blk_cell (i := 4) hx10 (drew_ext hW) rfl
          have x5 : ∀ W, Ext w10.drew W → W.cell? ⟨bx, 5, none⟩ = some (.slice (pA o') (pN o') (pC o')) := fun W hW => blk_cell (i := 5) hx10 (drew_ext hW) rfl
          have hkn2 : ((k : Nat) : Int) < ((n : Nat) : Int) := by omega
          have HG10 := Lib.hid hg10
          have HOWN10 := Lib.hid hown10
          have HC10 := Lib.hid hc10
          have HS10 := Lib.hid hs10
          have HX10 := Lib.hid hx10
          clear hg10 hown10 hc10 hs10 hx10 hx9 hg9 hcx9 hl9 f4 t4'
          refine Lex.wp_region_u [0, 1, 2, 3, 4, 5, 6] [7] [] (by kernel_rfl) (by kernel_rfl) (by repeat (first | exact Lex.st_nil | refine Lex.st_cons (by first | exact Lex.nums_st | exact Lex.const_st | exact Lex.such_st | exact Lex.row_st | exact Lex.rowE_st | exact Lex.litR_st | assumption) ?_)) ?_; simp only [Lex.pick, List.getElem?_cons_succ, List.getElem?_cons_zero, List.map_cons, List.map_nil]
          repeat (first | (refine Lex.lexU_skip (by rfl) ?_; simp only [Act.put, List.setIfInBounds_toArray, List.set_cons_zero, List.set_cons_succ]) | (refine Lex.lexU_still (by rfl) (by rfl) (by first | exact Base.Ext.refl | exact Lex.Fill.refl) ?_; apply Exists.intro; refine ⟨fun W hW => ?_, ?_⟩; (have hE := Lex.ext_of_cls hW.1; have hE2 := Lex.ext_drew hE; clear hW; go_simp; try with_reducible rfl); simp only [Act.put, List.setIfInBounds_toArray, List.set_cons_zero, List.set_cons_succ]))
          refine Lex.lexU_nil (fun W hW => ?_)
          have hE := Lib.hid (Lex.ext_drew hW.1)
          clear hW q4 x0 x1 x2 x3 x4 x5
          have HGW := Lib.hid (hE.out.at_ HG10.out)
          have hk6 : k * 6 + 6 ≤ c9 * 6 := by omega
          refine Splice.wpList_storeB 108 _ _ rfl rfl rfl g9 (k * 6) #[.int .u32 (num o'), .string (name o'), .int .i64 (plan o').1, .int .i64 (plan o').2.1, .int .i64 (plan o').2.2.1, .slice (pA o') (pN o') (pC o')] rfl rfl 108 cur9 HGW.out (by kernel_rfl) (by rw [hcs9]; exact hk6) (by simp [Value.oneCell']) ?_
          intro w12 hg12 hc12
          have hc10W : Chg (fun i => i = gt) w9 W := chg_ext HC10.out hE.out
          have hc3W : Chg (fun i => i = gt) w3 W := ext_chg (HE38.out.trans HE9.out) hc10W
          have hcW12 : Chg (fun i => i = gt) w3 w12 := hc3W.step hc12 fun i hi e => by have e : i = g9 := e; omega
          have hat12 := hc12.at_ (hE.out.at_ HS10.out) (fun e => hg9gt (Eq.symm e))
          have hownW : Own W (fun i => w8.heap.size ≤ i) 108 6 (.slice (some ⟨g9, 0, none⟩) n c9) n (cellsL objS objs) := HOWN10.out.extNew hE.out
          have hput : Splice.putAt (cellsL objS objs) (k * 6) (objC o') = cellsL objS (objs.set k (setRow o' j (mkRow (some ⟨g2, 0, none⟩) sl (rC r') ((rP r').set q (pl o.node o.gen))))) := cellsL_put (e := objS) (i := k) (x := setRow o' j (mkRow (some ⟨g2, 0, none⟩) sl (rC r') ((rP r').set q (pl o.node o.gen)))) (by rw [HLO.out]; exact hkn)
          have hown12 : Own w12 (fun i => w8.heap.size ≤ i) 108 6 (.slice (some ⟨g9, 0, none⟩) n c9) n (cellsL objS (objs.set k (setRow o' j (mkRow (some ⟨g2, 0, none⟩) sl (rC r') ((rP r').set q (pl o.node o.gen)))))) := by
            have := Splice.own_store (o := k * 6) hownW HGW.out (by show k * 6 + 6 ≤ n * 6; omega) hg12
            rw [← hput]
            exact this
          have hst9 : Stood w3 w9 (setRow o' j (mkRow (some ⟨g2, 0, none⟩) sl (rC r') ((rP r').set q (pl o.node o.gen)))) := (HSTX.out.ext HE8.out).ext HE9.out
          have hst10 := hst9.kind hc10W fun i hi _ => by
            have hi : i = gt := hi
            subst hi
            exact ⟨_, _, _, H9.out.at_, by decide, by decide⟩
          have hst12 := hst10.kind hc12 fun i hi _ => by
            have hi : i = g9 := hi
            subst hi
            exact ⟨_, _, _, HGW.out, by decide, by decide⟩
          have hallok : ∀ x ∈ objs.set k (setRow o' j (mkRow (some ⟨g2, 0, none⟩) sl (rC r') ((rP r').set q (pl o.node o.gen)))), objS.ok (erase w12 gt) x := fun x hx => by
            rcases List.mem_or_eq_of_mem_set hx with hx | hx
            · exact Sh.ok_ext (erase_chg hcW12) _ _ (objs_ext H3.out.ok (Ext.refl _) x hx)
            · rw [hx]
              exact hst12.ok hgt3
          have hok12 := new_objs (w := w8) (gt := gt) (by omega) hown12 (by rw [List.length_set]; exact HLO.out) hallok
          have hdid : Did w gt sl nd 0 (fun t' _ => MoveR sl nd ⟨nx, ls, some ad, n, c, objs⟩ o 0 t') (.returned (.int .i64 0)) w12 :=
            ⟨rfl, ext_chg HE3.out hcW12, ⟨nx, ls, some ⟨g9, 0, none⟩, n, c9, _⟩, ⟨by simpa using hat12, hok12⟩, fun h => absurd rfl h, fun _ => ⟨k, ob, _, HK.out, HOB.out, by rw [HTO.out]; exact HRIGHT.out, by
              have := HCP5.out.moved (o := o) (r' := r') (by rw [HJT.out]; exact HR1.out) (some ⟨g2, 0, none⟩) (rC r')
              rw [HJT.out, HQT.out, HRN1.out] at this
              exact this, rfl, rfl, rfl⟩⟩
          have HDID := Lib.hid hdid
          clear hg12 hc12 hc10W hc3W hcW12 hat12 hownW hput hown12 hst9 hst10 hst12 hallok hok12 hdid
          go_wp2_with fail
          try simp only [Lex.onlyN]
          go_wp2_with fail
          rw [HQ.out, HC.out]
          exact HDID.out
end Go.Proofs.Ytfhgjopoohfhjaa.Tbl
