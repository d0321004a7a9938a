/- An operation is done, walked: Apply. -/
import Derived.Test.YtfhgjopoohfhjaaTableL
namespace Go.Proofs.Ytfhgjopoohfhjaa.Tbl
open Go.RowKit Base Step Vec Shape Erase
/-- What an operation answers. -/
noncomputable def applyC (sl nd : Nat) (t : Tb) (o : Op) : Int :=
  if o.kind = 1 then beginC t.nx o
  else if o.kind = 2 then commitC sl nd t o
  else if o.kind = 3 then removeC t o
  else if o.kind = 4 then moveC sl nd t o else 1
/-- What stands behind it. -/
def ApplyR (sl nd : Nat) (t : Tb) (o : Op) (w : World) (t' : Tb) : Prop :=
  if o.kind = 1 then t' = if beginC t.nx o = 0 then { t with nx := t.nx + 1 } else t
  else if o.kind = 2 then CommitR sl nd t o w (commitC sl nd t o) t'
  else if o.kind = 3 then (if there t.objs o.name then removed t (place t.objs o.name) t' else t' = t)
  else if o.kind = 4 then MoveR sl nd t o (moveC sl nd t o) t' else t' = t
theorem Did.from {w w1 : World} {gt sl nd : Nat} {code : Int} {R : Tb → World → Prop} {e : Ending} {w' : World} (h : Did w1 gt sl nd code R e w') (he : Ext w w1) : Did w gt sl nd code R e w' := ⟨h.1, ext_chg he h.2.1, h.2.2⟩
set_option maxRecDepth 100000 in
set_option maxHeartbeats 4000000 in
theorem apply_calls (gt sl nd : Nat) (t : Tb) (o : Op) (w : World) (h : TbAt w gt sl nd t) (hn : t.n ≤ 1099511627776) (hnd : nd ≤ 32) (hs : ∀ ob ∈ t.objs, Small ob) (hr : ∀ ob ∈ t.objs, ∀ r ∈ rows ob, rN r = sl) (ho : OpAt w o) (hx0 : 0 ≤ t.nx) (hx1 : t.nx ≤ 4294967295) :
    Calls Try.prog 63 #[.pointer (some ⟨gt, 0, none⟩), opV o] w (Did w gt sl nd (applyC sl nd t o) fun t' _ => ApplyR sl nd t o w t') := by
  obtain ⟨Q, hQ⟩ : ∃ Q, Q = Did w gt sl nd (applyC sl nd t o) fun t' _ => ApplyR sl nd t o w t' := ⟨_, rfl⟩
  have HQ := Lib.hid hQ
  rw [← hQ]
  clear hQ
  have e0 := Lib.hid (Ext.new w (.cells (opC o) 120))
  have hb := at_new w (.cells (opC o) 120)
  have H := Lib.hid h
  have HO := Lib.hid ho
  have HS := Lib.hid hs
  have HR := Lib.hid hr
  clear h ho hs hr
  go_enter Try.func63, Try.ntmps63
  go_upto_region 1 with fail
  generalize w.alloc (.cells (opC o) 120) = w1 at *
  have b0 : w1.cell? ⟨w.heap.size, 0, none⟩ = some (.int .i64 o.kind) := blk_cell (i := 0) hb (Ext.refl _) rfl
  have HB := Lib.hid hb
  have H1 := Lib.hid (H.out.ext e0.out)
  have HO1 := Lib.hid (HO.out.ext e0.out)
  clear hb
  by_cases h1 : o.kind = 1
  · have hk : (o.kind == 1) = true := by simp [h1]
    have HK := Lib.hid h1
    clear h1
    go_wp2_with (refine wpList_load_rowG rfl 120 _ rfl w.heap.size rfl 120 (opC o) (0, 0) _ HB.out Try.underlying120 rfl (by kernel_rfl) ?_)
    refine (begin_calls gt sl nd t o w1 H1.out hx0 hx1).mono ?_
    rintro e w2 ⟨rfl, hc, ht⟩
    have HC := Lib.hid hc
    have HT := Lib.hid ht
    clear hc ht
    go_wp2_with fail
    rw [HQ.out]
    unfold applyC ApplyR
    rw [if_pos HK.out]
    simp only [if_pos HK.out]
    exact ⟨rfl, ext_chg e0.out HC.out, HT.out⟩
  by_cases h2 : o.kind = 2
  · have hk1 : (o.kind == 1) = false := by simp [h1]
    have hk : (o.kind == 2) = true := by simp [h2]
    have HK1 := Lib.hid h1
    have HK := Lib.hid h2
    clear h1 h2
    go_wp2_with (refine wpList_load_rowG rfl 120 _ rfl w.heap.size rfl 120 (opC o) (0, 0) _ HB.out Try.underlying120 rfl (by kernel_rfl) ?_)
    refine (commit_calls gt sl nd t o w1 H1.out hn hnd HO1.out).mono ?_
    rintro e w2 ⟨rfl, hc, ht⟩
    have HC := Lib.hid hc
    have HT := Lib.hid ht
    clear hc ht
    go_wp2_with fail
    rw [HQ.out]
    unfold applyC ApplyR
    simp only [if_neg HK1.out, if_pos HK.out]
    exact ⟨rfl, ext_chg e0.out HC.out, HT.out⟩
  by_cases h3 : o.kind = 3
  · have hk1 : (o.kind == 1) = false := by simp [h1]
    have hk2 : (o.kind == 2) = false := by simp [h2]
    have hk : (o.kind == 3) = true := by simp [h3]
    have HK1 := Lib.hid h1
    have HK2 := Lib.hid h2
    have HK := Lib.hid h3
    clear h1 h2 h3
    go_wp2_with (refine wpList_load_rowG rfl 120 _ rfl w.heap.size rfl 120 (opC o) (0, 0) _ HB.out Try.underlying120 rfl (by kernel_rfl) ?_)
    refine (remove_calls gt sl nd t o w1 H1.out hn).mono ?_
    rintro e w2 ⟨rfl, hc, ht⟩
    have HC := Lib.hid hc
    have HT := Lib.hid ht
    clear hc ht
    go_wp2_with fail
    rw [HQ.out]
    unfold applyC ApplyR
    simp only [if_neg HK1.out, if_neg HK2.out, if_pos HK.out]
    exact ⟨rfl, ext_chg e0.out HC.out, HT.out⟩
  by_cases h4 : o.kind = 4
  · have hk1 : (o.kind == 1) = false := by simp [h1]
    have hk2 : (o.kind == 2) = false := by simp [h2]
    have hk3 : (o.kind == 3) = false := by simp [h3]
    have hk : (o.kind == 4) = true := by simp [h4]
    have HK1 := Lib.hid h1
    have HK2 := Lib.hid h2
    have HK3 := Lib.hid h3
    have HK := Lib.hid h4
    clear h1 h2 h3 h4
    go_wp2_with (refine wpList_load_rowG rfl 120 _ rfl w.heap.size rfl 120 (opC o) (0, 0) _ HB.out Try.underlying120 rfl (by kernel_rfl) ?_)
    refine (move_calls gt sl nd t o w1 H1.out hn hnd HS.out HR.out HO1.out).mono ?_
    rintro e w2 ⟨rfl, hc, ht⟩
    have HC := Lib.hid hc
    have HT := Lib.hid ht
    clear hc ht
    go_wp2_with fail
    rw [HQ.out]
    unfold applyC ApplyR
    simp only [if_neg HK1.out, if_neg HK2.out, if_neg HK3.out, if_pos HK.out]
    exact ⟨rfl, ext_chg e0.out HC.out, HT.out⟩
  · have hk1 : (o.kind == 1) = false := by simp [h1]
    have hk2 : (o.kind == 2) = false := by simp [h2]
    have hk3 : (o.kind == 3) = false := by simp [h3]
    have hk4 : (o.kind == 4) = false := by simp [h4]
    have HK1 := Lib.hid h1
    have HK2 := Lib.hid h2
    have HK3 := Lib.hid h3
    have HK := Lib.hid h4
    clear h1 h2 h3 h4
    go_wp2_with fail
    rw [HQ.out]
    unfold applyC ApplyR
    simp only [if_neg HK1.out, if_neg HK2.out, if_neg HK3.out, if_neg HK.out]
    exact ⟨rfl, Below.chg e0.out, t, H1.out, rfl⟩
end Go.Proofs.Ytfhgjopoohfhjaa.Tbl
