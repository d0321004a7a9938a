/- The chapter's example of tables, walked. -/
import Derived.Test.YtfhgjopoohfhjaaTableR
namespace Go.Proofs.Ytfhgjopoohfhjaa.Tbl
open Go.RowKit Base Step Vec Shape Erase
/-- The example's operations. -/
abbrev exOp (k : Int) (s : ByteArray) (p : Int) : Op := ⟨k, 1, s, 0, 0, p, none, 0, 0, [], 0, 0, 0, 0⟩
theorem exOp_at (w : World) (k : Int) (s : ByteArray) (p : Int) (hs : s.size ≤ 200) (hp : (Lit.int .i64 p).wf = true) : OpAt w (exOp k s p) := by
  have h0 : (Lit.int .i64 0).wf = true := by decide
  have h1 : (Lit.int .u32 1).wf = true := by decide
  have h2 : (Lit.int .u32 0).wf = true := by decide
  have hr : (Sh.sl rowS).ok w (none, 0, 0, []) := ⟨rfl, Nat.le_refl _, by decide, fun _ => rfl, fun i x hx => (by cases hx)⟩
  exact ⟨h1, by show s.size ≤ 140737488355328; omega, h0, h0, hp, hr, Nat.zero_le _, fun r hr => (by cases hr), h2, h0⟩
theorem name_one {c : UInt8} (h : 33 ≤ c.toNat ∧ c.toNat ≤ 126) : NameOk ⟨#[c]⟩ := ⟨fun i hi => by
  have : i = 0 := by have : (⟨#[c]⟩ : ByteArray).size = 1 := rfl; omega
  subst this
  exact h, Nat.le_refl _, by show 1 ≤ 64; decide⟩
theorem plan_ex (k : Int) (s : ByteArray) : PlanOk 1 1 (exOp k s 1) := ⟨Int.le_refl _, by show (0 : Int) ≤ 16384; decide, Int.le_refl _, by show (0 : Int) ≤ 32; decide, Int.le_refl _, by show (1 : Int) ≤ 256; decide, rfl, fun r hr => (by cases hr)⟩
abbrev exT0 : Tb := ⟨1, 0, none, 0, 0, []⟩
abbrev exT1 : Tb := ⟨2, 0, none, 0, 0, []⟩
theorem ex_begin : applyC 1 1 exT0 (exOp 1 ⟨#[]⟩ 0) = 0 := by
  unfold applyC beginC
  simp
theorem ex_begin_r {w : World} {t' : Tb} (h : ApplyR 1 1 exT0 (exOp 1 ⟨#[]⟩ 0) w t') : t' = exT1 := by
  unfold ApplyR beginC at h
  simpa using h
theorem ex_commit : applyC 1 1 exT1 (exOp 2 ⟨#[97]⟩ 1) = 0 := by
  unfold applyC commitC
  rw [if_neg (by decide), if_pos rfl, if_neg (fun h => h ⟨name_one (by decide), plan_ex _ _⟩), if_neg, if_neg, if_neg]
  · show ¬ 64 ≤ 0
    decide
  · show ¬ ((1 : Int) ≤ 0 ∨ (2 : Int) ≤ 1)
    decide
  · rintro (h | h)
    · cases h
    · exact absurd h (by decide)
theorem ex_commit_r {w : World} {t' : Tb} (h : ApplyR 1 1 exT1 (exOp 2 ⟨#[97]⟩ 1) w t') : ∃ ob, t'.nx = 2 ∧ t'.ls = 1 ∧ t'.objs = [ob] ∧ Like (exOp 2 ⟨#[97]⟩ 1) ob := by
  unfold ApplyR at h
  rw [if_neg (by decide), if_pos rfl] at h
  have hc := ex_commit
  unfold applyC at hc
  rw [if_neg (by decide), if_pos rfl] at hc
  obtain ⟨_, _, h1, h2, ob, h3, h4⟩ := h.2 hc
  exact ⟨ob, h1, h2, by simpa using h4, h3⟩
theorem ex_twice {t : Tb} {ob : Obj} (ho : t.objs = [ob]) (hn : num ob = 1) : applyC 1 1 t (exOp 2 ⟨#[98]⟩ 1) = 7 := by
  unfold applyC commitC
  rw [if_neg (by decide), if_pos rfl, if_neg (fun h => h ⟨name_one (by decide), plan_ex _ _⟩), if_pos]
  refine .inr ?_
  rw [ho]
  unfold numAt numFrom
  rw [if_pos hn]
  decide
theorem ex_twice_r {w : World} {t t' : Tb} {ob : Obj} (ho : t.objs = [ob]) (hn : num ob = 1) (h : ApplyR 1 1 t (exOp 2 ⟨#[98]⟩ 1) w t') : t' = t := by
  unfold ApplyR at h
  rw [if_neg (by decide), if_pos rfl] at h
  have hc := ex_twice ho hn
  unfold applyC at hc
  rw [if_neg (by decide), if_pos rfl] at hc
  exact h.1 (by rw [hc]; decide)
theorem ex_found {ob : Obj} (hn : name ob = ⟨#[97]⟩) : found [ob] ⟨#[97]⟩ = some ob := by
  have h0 : cmpS (⟨#[97]⟩ : ByteArray) ⟨#[97]⟩ = 0 := by decide
  have hp : place [ob] ⟨#[97]⟩ = 0 := by
    unfold place
    show bsGo _ 1 0 1 = 0
    unfold bsGo
    rw [if_pos (by decide), if_neg]
    · rfl
    · show ¬ cmpS (name ob) ⟨#[97]⟩ < 0
      rw [hn, h0]
      decide
  have ht : there [ob] ⟨#[97]⟩ = true := by
    unfold there
    rw [hp]
    show decide (cmpS (name ob) ⟨#[97]⟩ = 0) = true
    rw [hn, h0]
    rfl
  unfold found
  rw [if_pos ht, hp]
  rfl
theorem fresh_chg {w w' W : World} {g : Nat} (h : Chg (fun i => i = g) w' W) (he : Ext w w') (hg : w.heap.size ≤ g) : Ext w W := he.chg h fun i hi => by rw [hi]; exact hg
set_option maxRecDepth 100000 in
set_option maxHeartbeats 4000000 in
theorem awake_calls (w : World) : Calls Try.prog 59 #[] w fun e w' => e = .returned (.bool true) ∧ Ext w w' := by
  go_enter Try.func59, Try.ntmps59
  go_wp2_with fail
  refine (new_calls 1 1 w (by decide) (by decide) (by decide) (by decide)).mono ?_
  rintro e w1 ⟨rfl, he1, ht1⟩
  have H1 : Hid (TbAt w1 w.heap.size 1 1 exT0) := Lib.hid ht1
  have HE1 := Lib.hid he1
  generalize hgt : w.heap.size = gt at *
  have HGT := Lib.hid (Nat.le_of_eq hgt)
  clear ht1 he1 hgt
  go_wp2_with fail
  refine (apply_calls gt 1 1 exT0 (exOp 1 ⟨#[]⟩ 0) w1 H1.out (by decide) (by decide) (fun ob h => by cases h) (fun ob h => by cases h) (exOp_at _ _ _ _ (by decide) (by decide)) (by decide) (by decide)).mono ?_
  rintro e w2 ⟨rfl, hc2, t2, ht2, hr2⟩
  rw [ex_begin]
  obtain rfl := ex_begin_r hr2
  have H2 := Lib.hid ht2
  have HE2 := Lib.hid (fresh_chg hc2 HE1.out HGT.out)
  clear hc2 ht2 hr2
  go_wp2_with fail
  refine (apply_calls gt 1 1 exT1 (exOp 2 ⟨#[97]⟩ 1) w2 H2.out (by decide) (by decide) (fun ob h => by cases h) (fun ob h => by cases h) (exOp_at _ _ _ _ (by decide) (by decide)) (by decide) (by decide)).mono ?_
  rintro e w3 ⟨rfl, hc3, t3, ht3, hr3⟩
  rw [ex_commit]
  obtain ⟨ob, hx3, hl3, ho3, hk3⟩ := ex_commit_r hr3
  have H3 := Lib.hid ht3
  have HE3 := Lib.hid (fresh_chg hc3 HE2.out HGT.out)
  have HO3 := Lib.hid ho3
  have HK3 := Lib.hid hk3
  have HN3 := Lib.hid (sl_len ht3.ok).1
  have hok : objS.ok w3 ob := Sh.ok_off (sl_each ht3.ok (i := 0) (x := ob) (by rw [ho3]; rfl))
  have hrows : rows ob = [] := List.eq_nil_of_length_eq_zero (by rw [hk3.len]; rfl)
  have hpn : pN ob = 0 := by rw [← obj_rows hok, hrows]; rfl
  have HS : Hid (∀ x ∈ t3.objs, Small x ∧ ∀ r ∈ rows x, rN r = 1) := Lib.hid fun x hx => by
    rw [ho3] at hx
    obtain rfl : x = ob := by simpa using hx
    exact ⟨⟨by omega, fun r hr => by rw [hrows] at hr; cases hr⟩, fun r hr => by rw [hrows] at hr; cases hr⟩
  have HX3 := Lib.hid hx3
  have hn3 : t3.n = 1 := by have := (sl_len ht3.ok).1; rw [ho3] at this; simpa using this.symm
  have HNN := Lib.hid hn3
  clear hc3 ht3 hr3 hx3 hl3 ho3 hk3 hok hrows hpn hn3
  go_wp2_with fail
  refine (apply_calls gt 1 1 t3 (exOp 2 ⟨#[98]⟩ 1) w3 H3.out (by rw [HNN.out]; decide) (by decide) (fun x h => (HS.out x h).1) (fun x h => (HS.out x h).2) (exOp_at _ _ _ _ (by decide) (by decide)) (by rw [HX3.out]; decide) (by rw [HX3.out]; decide)).mono ?_
  rintro e w4 ⟨rfl, hc4, t4, ht4, hr4⟩
  rw [ex_twice HO3.out HK3.out.num]
  obtain rfl := ex_twice_r HO3.out HK3.out.num hr4
  have H4 := Lib.hid ht4
  have HE4 := Lib.hid (fresh_chg hc4 HE3.out HGT.out)
  clear hc4 ht4 hr4
  go_wp2_with fail
  refine (find_calls gt 1 1 t4.nx t4.ls t4.A t4.n t4.c t4.objs ⟨#[97]⟩ w4 H4.out (by rw [HNN.out]; decide) fun x h => (HS.out x h).1).mono ?_
  intro e w5 h5
  rw [HO3.out, ex_found HK3.out.name] at h5
  obtain ⟨o', rfl, hcp⟩ := h5
  have HNO : Hid (num o' = 1) := Lib.hid (by rw [hcp.num]; exact HK3.out.num)
  have HE5 := Lib.hid (HE4.out.trans hcp.ext)
  clear hcp
  go_upto_region 8 with (refine RowSt.wpList_put 108 _ _ rfl rfl rfl w5.heap.size #[.int .u32 (num o'), .string (name o'), .int .i64 (plan o').1, .int .i64 (plan o').2.1, .int .i64 (plan o').2.2.1, .slice (pA o') (pN o') (pC o')] rfl rfl 108 _ (at_new w5 _) (by kernel_rfl) rfl (by simp [Value.oneCell']) ?_; intro w6 hb6 hc6)
  have c0 : w6.cell? ⟨w5.heap.size, 0, none⟩ = some (.int .u32 (num o')) := blk_cell (i := 0) hb6 (Ext.refl _) rfl
  rw [HNO.out] at c0
  have HE6 := Lib.hid ((HE5.out.alloc _).chg hc6 fun i hi => by have := HE5.out.size; have hi : i = w5.heap.size := hi; omega)
  clear hb6 hc6
  go_wp2_with fail
  go_ret
  exact ⟨rfl, HE6.out⟩
end Go.Proofs.Ytfhgjopoohfhjaa.Tbl
