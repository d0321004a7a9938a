/- What is known of the two tables is kept by an operation. No program in sight. -/
import Derived.Test.YtfhgjopoohfhjaaTableSame
namespace Go.Proofs.Ytfhgjopoohfhjaa.Tbl
open Go.RowKit Base Step Vec Shape Erase
theorem fine_rows {w : World} {A : Option Addr} {n c : Nat} {l : List Row} (h : (Sh.sl rowS).ok w (A, n, c, l)) : ∀ r ∈ l, (rP r).length = rN r ∧ ∀ p ∈ rP r, 0 ≤ gen p ∧ gen p < 4294967296 := fun r hr => by
  obtain ⟨i, hi, hir⟩ := List.getElem_of_mem hr
  have hrok : (Sh.sl plS).ok w (rA r, rN r, rC r, rP r) := sl_each h (i := i) (x := r) (by rw [List.getElem?_eq_getElem hi, hir])
  refine ⟨(sl_len hrok).1, fun p hp => ?_⟩
  obtain ⟨j, hj, hjp⟩ := List.getElem_of_mem hp
  have hpk : plS.ok w p := sl_each hrok (i := j) (by rw [List.getElem?_eq_getElem hj, hjp])
  obtain ⟨_, k2, _⟩ : (Lit.int .i64 p.1).wf = true ∧ (Lit.int .u32 p.2.1).wf = true ∧ True := hpk
  exact wf_u32 k2
theorem fine_commit {sl nd : Nat} {t t' : Tb} {o : Op} {w : World} (hi : ∀ ob ∈ t.objs, FineO nd sl ob) (ho : OpAt w o) (hr : CommitR sl nd t o w (commitC sl nd t o) t') (hp : ∀ ob ∈ t'.objs, (rows ob).length = pN ob) : ∀ ob ∈ t'.objs, FineO nd sl ob := by
  by_cases hc : commitC sl nd t o = 0
  · obtain ⟨hnm, hpl, hx, hl, ob, hk, hobs⟩ := hr.2 hc
    intro x hxm
    have hpx := hp x hxm
    rw [hobs] at hxm
    have hmem : x ∈ t.objs ∨ x = ob := by
      rcases List.mem_append.1 hxm with hx | hx
      · rcases List.mem_append.1 hx with hx | hx
        · exact .inl (List.mem_of_mem_take hx)
        · exact .inr (by simpa using hx)
      · exact .inl (List.mem_of_mem_drop hx)
    rcases hmem with hx1 | rfl
    · exact hi x hx1
    · have hn0 := wf_u32 ho.num
      have hol : o.rows.length = o.n := (sl_len ho.rows).1
      have h5 := hpl.n
      have h6 := hpl.c1
      have e1 : pl1 x = o.l := by unfold pl1; rw [hk.plan]
      have e2 : pl2 x = o.c := by unfold pl2; rw [hk.plan]
      have e3 : pl3 x = o.p := by unfold pl3; rw [hk.plan]
      have hp0 := hpl.p0
      refine ⟨by rw [hk.num]; exact hn0.1, by rw [hk.num]; exact hn0.2, by rw [hk.name]; exact hnm.few, by rw [e1]; exact hpl.l0, by rw [e1]; exact hpl.l1, by rw [e2]; exact hpl.c0, by rw [e2]; exact hpl.c1, by rw [e3]; omega, by rw [e3]; exact hpl.p1, ⟨by rw [hk.len]; omega, hpx⟩, fun r' hr' => ?_⟩
      obtain ⟨i, hi, hir⟩ := List.getElem_of_mem hr'
      obtain ⟨r, hrr⟩ : ∃ r, o.rows[i]? = some r := ⟨_, List.getElem?_eq_getElem (by rw [← hk.len]; exact hi)⟩
      obtain ⟨ha1, ha2⟩ := hk.alike i r r' hrr (by rw [List.getElem?_eq_getElem hi, hir])
      have hrm := List.mem_of_getElem? hrr
      have hright := hpl.rows r hrm
      have hf := fine_rows ho.rows r hrm
      refine ⟨by rw [ha1, ← hf.1]; exact hright.all, fun p hpm => ?_⟩
      rw [ha2] at hpm
      exact ⟨(hright.on p hpm).1, (hright.on p hpm).2, hf.2 p hpm⟩
  · rw [hr.1 hc]
    exact hi
theorem fine_move {sl nd : Nat} {t t' : Tb} {o : Op} {w : World} (hi : ∀ ob ∈ t.objs, FineO nd sl ob) (ho : OpAt w o) (hr : MoveR sl nd t o (moveC sl nd t o) t') (hp : ∀ ob ∈ t'.objs, (rows ob).length = pN ob) : ∀ ob ∈ t'.objs, FineO nd sl ob := by
  by_cases hc : moveC sl nd t o = 0
  · obtain ⟨k, ob, ob', hk, hob, hright, hm, hx, hl, hobs⟩ := hr.2 hc
    intro x hxm
    have hpx := hp x hxm
    rw [hobs] at hxm
    rcases List.mem_or_eq_of_mem_set hxm with hx1 | rfl
    · exact hi x hx1
    · have hf := hi ob (List.mem_of_getElem? hob)
      have e1 : pl1 x = pl1 ob := by unfold pl1; rw [hm.plan]
      have e2 : pl2 x = pl2 ob := by unfold pl2; rw [hm.plan]
      have e3 : pl3 x = pl3 ob := by unfold pl3; rw [hm.plan]
      refine ⟨by rw [hm.num]; exact hf.num0, by rw [hm.num]; exact hf.num1, by rw [hm.name]; exact hf.nm, by rw [e1]; exact hf.l0, by rw [e1]; exact hf.l1, by rw [e2]; exact hf.c0, by rw [e2]; exact hf.c1, by rw [e3]; exact hf.p0, by rw [e3]; exact hf.p1, ⟨by rw [hm.len]; exact hf.rws.1, hpx⟩, fun r' hr' => ?_⟩
      obtain ⟨i, hi, hir⟩ := List.getElem_of_mem hr'
      obtain ⟨r, hrr⟩ : ∃ r, (rows ob)[i]? = some r := ⟨_, List.getElem?_eq_getElem (by rw [← hm.len]; exact hi)⟩
      obtain ⟨ha1, ha2⟩ := hm.each i r r' hrr (by rw [List.getElem?_eq_getElem hi, hir])
      have hold := hf.each r (List.mem_of_getElem? hrr)
      refine ⟨by rw [ha1]; exact hold.1, fun p hpm => ?_⟩
      rw [ha2] at hpm
      split at hpm
      · rename_i hij
        subst hij
        have hto : toRow t o = (rP r).set o.slot.toNat (pl o.node o.gen) := by
          unfold toRow rowOf
          have e1 : t.objs[(numAt t.objs o.num).toNat]? = some ob := by rw [hk]; exact hob
          rw [e1]
          simp only [hrr]
        have hon := hright.on p (by rw [hto]; exact hpm)
        refine ⟨hon.1, hon.2, ?_⟩
        rcases List.mem_or_eq_of_mem_set hpm with hp1 | rfl
        · exact (hold.2 p hp1).2.2
        · exact wf_u32 ho.gen
      · exact hold.2 p hpm
  · rw [hr.1 hc]
    exact hi
theorem fine_apply {sl nd : Nat} {t t' : Tb} {o : Op} {w : World} (hi : ∀ ob ∈ t.objs, FineO nd sl ob) (ho : OpAt w o) (hr : ApplyR sl nd t o w t') (hp : ∀ ob ∈ t'.objs, (rows ob).length = pN ob) : ∀ ob ∈ t'.objs, FineO nd sl ob := by
  unfold ApplyR at hr
  split at hr
  · rw [hr]
    split
    · exact hi
    · exact hi
  · split at hr
    · exact fine_commit hi ho hr hp
    · split at hr
      · split at hr
        · exact fun x hx => hi x ((removed_sub hr).mem hx)
        · rw [hr]; exact hi
      · split at hr
        · exact fine_move hi ho hr hp
        · rw [hr]; exact hi
theorem ls_apply {sl nd : Nat} {t t' : Tb} {o : Op} {w : World} (h0 : 0 ≤ t.ls) (h1 : t.ls ≤ 4294967295) (ho : OpAt w o) (hr : ApplyR sl nd t o w t') : 0 ≤ t'.ls ∧ t'.ls ≤ 4294967295 := by
  unfold ApplyR at hr
  split at hr
  · rw [hr]
    split
    · exact ⟨h0, h1⟩
    · exact ⟨h0, h1⟩
  · split at hr
    · by_cases hc : commitC sl nd t o = 0
      · obtain ⟨_, _, _, hl, _⟩ := hr.2 hc
        have := wf_u32 ho.num
        omega
      · rw [hr.1 hc]
        exact ⟨h0, h1⟩
    · split at hr
      · split at hr
        · rw [hr.2.1]; exact ⟨h0, h1⟩
        · rw [hr]; exact ⟨h0, h1⟩
      · split at hr
        · by_cases hc : moveC sl nd t o = 0
          · obtain ⟨_, _, _, _, _, _, _, _, hl, _⟩ := hr.2 hc
            rw [hl]; exact ⟨h0, h1⟩
          · rw [hr.1 hc]
            exact ⟨h0, h1⟩
        · rw [hr]; exact ⟨h0, h1⟩
theorem fine_view {nd sl : Nat} {a b : Obj} (h : FineO nd sl a) (hv : view a = view b) (hb : (rows b).length = pN b) (ha : ∀ r ∈ rows a, (rP r).length = rN r) (hr : ∀ r ∈ rows b, (rP r).length = rN r) : FineO nd sl b := by
  have e1 : pl1 a = pl1 b := by unfold pl1; rw [view_plan hv]
  have e2 : pl2 a = pl2 b := by unfold pl2; rw [view_plan hv]
  have e3 : pl3 a = pl3 b := by unfold pl3; rw [view_plan hv]
  refine ⟨by rw [← view_num hv]; exact h.num0, by rw [← view_num hv]; exact h.num1, by rw [← view_name hv]; exact h.nm, by rw [← e1]; exact h.l0, by rw [← e1]; exact h.l1, by rw [← e2]; exact h.c0, by rw [← e2]; exact h.c1, by rw [← e3]; exact h.p0, by rw [← e3]; exact h.p1, ⟨by rw [← rows_len hv]; exact h.rws.1, hb⟩, fun r hrm => ?_⟩
  have hm : rP r ∈ (rows a).map rP := by rw [view_rows hv]; exact List.mem_map_of_mem hrm
  obtain ⟨r0, hr0, he⟩ := List.mem_map.1 hm
  have h0 := h.each r0 hr0
  exact ⟨by rw [← hr r hrm, ← he, ha r0 hr0]; exact h0.1, fun p hp => h0.2 p (by rw [he]; exact hp)⟩
/-- Behind an operation. -/
theorem good_apply {sl nd : Nat} {t r t' r' : Tb} {o : Op} {A : Option Addr} {c : Nat} {l : List Row} {w W V : World} {gt : Nat} (h : Good sl nd t r) (hs : Same o.rows l) (ho : OpAt w (withRows o A c l)) (ht : ApplyR sl nd t (withRows o A c l) w t') (hr : RApplyR sl nd r o r') (hT : TbAt W gt sl nd t') (hD : Doc V r') :
    applyC sl nd t (withRows o A c l) = rApplyC sl nd r o ∧ Good sl nd t' r' := by
  obtain ⟨h1, h2, h3⟩ := sim_apply h.both hs ht hr
  have hTk := Sh.ok_off hT.ok
  have hD : (Sh.sl objS).ok V (r'.A, r'.n, r'.c, r'.objs) := hD
  have htp : ∀ ob ∈ t'.objs, (rows ob).length = pN ob := fun ob hob => by
    obtain ⟨i, hi, hix⟩ := List.getElem_of_mem hob
    exact (sl_len (obj_ok (sl_each hTk (i := i) (by rw [List.getElem?_eq_getElem hi, hix]))).2.2.2).1
  have hrp : ∀ ob ∈ r'.objs, (rows ob).length = pN ob := fun ob hob => by
    obtain ⟨i, hi, hix⟩ := List.getElem_of_mem hob
    exact (sl_len (obj_ok (sl_each hD (i := i) (by rw [List.getElem?_eq_getElem hi, hix]))).2.2.2).1
  have hft := fine_apply h.ft ho ht htp
  have hls := ls_apply h.l0 h.l1 ho ht
  refine ⟨h1, ⟨h2, h3, (sl_len hTk).1, (sl_len hD).1, htp, hrp⟩, inv_apply h.inv h.both.tn ho ht, hft, fun b hb => ?_, hls.1, hls.2⟩
  obtain ⟨i, hi, hix⟩ := List.getElem_of_mem hb
  obtain ⟨a, ha, hv⟩ := view_at h2.objs.symm (i := i) (a := b) (by rw [List.getElem?_eq_getElem hi, hix])
  exact fine_view (hft a (List.mem_of_getElem? ha)) hv.symm (hrp b hb) (objs_rows hTk a (List.mem_of_getElem? ha)) (objs_rows hD b hb)
theorem good_new (sl nd : Nat) : Good sl nd ⟨1, 0, none, 0, 0, []⟩ ⟨1, 0, none, 0, 0, []⟩ :=
  ⟨⟨⟨rfl, rfl, rfl⟩, List.Pairwise.nil, rfl, rfl, fun _ h => (by cases h), fun _ h => (by cases h)⟩, inv_new, fun _ h => (by cases h), fun _ h => (by cases h), by decide, by decide⟩
end Go.Proofs.Ytfhgjopoohfhjaa.Tbl
