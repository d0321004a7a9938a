/- A queue's All: walked. -/
import Derived.Test.YtipmkddcdnbihaaUrgF
import Derived.Test.YtipmkddcdnbihaaShelfJ
import Derived.Laws.Cover3
namespace Go.Proofs.Ytipmkddcdnbihaa.Urg
open Go.RowKit Base Step MapIs Vec
open UrgP
set_option maxRecDepth 100000 in
theorem clone_calls (S : Nat → Prop) (A : Option Addr) (n c : Nat) (l : List Job) (w : World) (hown : Own w S 32 3 (.slice A n c) n (l.flatMap jobV)) (hn : n ≤ 1000000) :
    Calls Try.prog 76 #[.slice A n c] w fun e w' => Ext w w' ∧ ∃ A' c', e = .returned (.slice A' n c') ∧ New w w' 32 3 A' n c' (l.flatMap jobV) := by
  rcases A with _ | ad
  · obtain ⟨rfl, rfl, hl⟩ := Splice.own_none hown
    rw [hl]
    clear hown hl
    have hq : (binOp .eql 36 (.slice none 0 0) (.slice none 0 0)).run Try.prog w = .ok (.bool true) w := by
      simp only [binOp]
      simp [run_equal_slice_nil w 36 32 none 0 0 Try.underlying36]
    go_enter Try.func76, Try.ntmps76
    go_wp2_with fail
    go_ret
    exact ⟨Ext.refl _, none, 0, rfl, Own.nil _ _ _ _⟩
  · have HO := Lib.hid hown
    have hlen : (l.flatMap jobV).length = n * 3 := hown.row.1
    have h1c : ∀ u ∈ l.flatMap jobV, u.oneCell' = true := fun u hu => by
      obtain ⟨j, _, hj⟩ := List.mem_flatMap.1 hu
      simp [jobV] at hj
      rcases hj with rfl | rfl | rfl <;> rfl
    have H1 := Lib.hid h1c
    clear hown h1c
    have hq : (binOp .eql 36 (.slice (some ad) n c) (.slice none 0 0)).run Try.prog w = .ok (.bool false) w := by
      simp only [binOp]
      simp [run_equal_slice_nil w 36 32 (some ad) n c Try.underlying36]
    go_enter Try.func76, Try.ntmps76
    go_wp2_with (at_builtin; refine wpList_appV _ rfl _ _ _ rfl (fun i => w.heap.size ≤ i) 32 _ 3 16 Try.underlying36 info_job rfl (by decide) (by decide) (.slice (some ⟨w.heap.size, 0, none⟩) 0 0) 0 [] rfl (own_empty (at_new _ _) (Nat.le_refl _)) (some ad) n c (l.flatMap jobV) rfl hlen (fun h => by cases h) (fun ad' e j u hu => by cases e; obtain ⟨_, e2, hc⟩ := own_cell HO.out hu; cases e2; exact (Ext.new w _).cell_ hc) H1.out ?c2 (fun i hi => by simp at hi; omega) ?_)
    case c2 => omega
    intro A2 c2 w2 ho2 hc2
    have hE : Ext w w2 := (Ext.new w _).chg hc2 (fun i hi => by simp [Value.ownBlock] at hi; omega)
    have HE := Lib.hid hE
    have HO2 := Lib.hid ho2
    clear hE ho2 hc2
    go_wp2_with fail
    go_ret
    exact ⟨HE.out, A2, c2, rfl, HO2.out⟩
instance : Inhabited Job := ⟨z⟩
theorem flat_get (l : List Job) (t : Nat) (ht : t < l.length * 3) : (l.flatMap jobV)[t]? = some (Go.Sort.flatK jobV 3 l.toArray)[t]! := by
  have hi : t / 3 < l.length := by omega
  have hj : l[t / 3]? = some l[t / 3] := List.getElem?_eq_getElem hi
  have hv : (jobV l[t / 3])[t % 3]? = some (jobV l[t / 3])[t % 3]! := by
    rw [getElem!_pos (jobV l[t / 3]) (t % 3) (show t % 3 < 3 by omega)]
    exact List.getElem?_eq_getElem _
  have h1 := flat_at hj hv
  rw [show t / 3 * 3 + t % 3 = t by omega] at h1
  rw [h1, Go.Sort.get_flatK _ _ _ _ (by simpa using ht)]
  congr 3
  rw [getElem!_pos _ _ (by simpa using hi)]
  simp
theorem holds_own {w : World} {S : Nat → Prop} {g n c : Nat} {l : List Job} (h : Own w S 32 3 (.slice (some ⟨g, 0, none⟩) n c) n (l.flatMap jobV)) : Go.Sort.HoldsK jobV 3 w g 0 l.toArray := by
  intro t ht
  have ht' : t < l.length * 3 := by simpa using ht
  obtain ⟨_, e, hc⟩ := own_cell h (flat_get l t ht')
  cases e
  have hf := own_free h t
  rw [add_lit] at hc hf
  exact ⟨hc, hf⟩
/-- The row behind the sort. -/
theorem own_sorted {w : World} {S : Nat → Prop} {g n c : Nat} {l : List Job} (h : Own w S 32 3 (.slice (some ⟨g, 0, none⟩) n c) n (l.flatMap jobV)) (m : Nat) (l' : List Job) (hl : l'.length = n) (os : Array Obj) :
    Own (Go.Proofs.sortWorldK jobV 3 w g 0 m l'.toArray os) S 32 3 (.slice (some ⟨g, 0, none⟩) n c) n (l'.flatMap jobV) ∧ Chg (fun i => i = g) w (Go.Proofs.sortWorldK jobV 3 w g 0 m l'.toArray os) := by
  obtain ⟨_, cur, e, hb, hnc, hcm, hcs, hcx, hS, _⟩ := Splice.blk_own h
  cases e
  have hg : g < w.heap.size := Pack.lt_of_at hb
  have hb' : (Go.Proofs.sortWorldK jobV 3 w g 0 m l'.toArray os).heap[g]? = some (.cells (Go.Sort.putCells id 0 (Go.Sort.flatK jobV 3 l'.toArray) cur) 32 (0, 0)) := by
    show (w.heap.modify g _ ++ os)[g]? = _
    rw [Array.getElem?_append_left (by simpa using hg), Array.getElem?_modify]
    simp [hb, Go.Sort.onCells]
  refine ⟨?_, rfl, rfl, rfl, ?_, fun i hi hne => ?_⟩
  · have h1 := Splice.own_blk (S := S) (size := 3) hb' hnc hcm (by simp [Go.Sort.putCells, hcs]) hS
    have h2 : (Go.Sort.putCells id 0 (Go.Sort.flatK jobV 3 l'.toArray) cur).toList.take (n * 3) = l'.flatMap jobV := by
      apply List.ext_getElem?
      intro t
      have hnc3 : n * 3 ≤ c * 3 := Nat.mul_le_mul_right _ hnc
      by_cases ht : t < n * 3
      · rw [List.getElem?_take_of_lt ht, flat_get l' t (by rw [hl]; exact ht)]
        have h3 : t < cur.size := by omega
        simp [Go.Sort.putCells, h3, hl, ht]
      · rw [List.getElem?_eq_none (by rw [List.length_take]; omega), List.getElem?_eq_none (by rw [flat_len, hl]; omega)]
    rwa [h2] at h1
  · show w.heap.size ≤ (w.heap.modify g _ ++ os).size
    simp
  · have hne : ¬ i = g := hne
    show (w.heap.modify g _ ++ os)[i]? = _
    rw [Array.getElem?_append_left (by simpa using hi), Array.getElem?_modify, if_neg (Ne.symm hne)]
def cf (a b : Job) : Int := if UrgP.ahead a b then -1 else 1
theorem ltOf_cf : Go.Proofs.ltOf cf = UrgP.ahead := by
  funext a b
  unfold Go.Proofs.ltOf cf
  cases UrgP.ahead a b <;> simp
theorem swo : Go.Sort.SWO (Go.Proofs.ltOf cf) := by
  rw [ltOf_cf]
  exact ⟨irrefl, fun x y z => UrgP.trans, fun x y z => ntrans⟩
set_option maxRecDepth 100000 in
theorem sort_calls (S : Nat → Prop) (A : Option Addr) (n c : Nat) (l : List Job) (w : World) (hown : Own w S 32 3 (.slice A n c) n (l.flatMap jobV)) (hl : l.length = n) (hn : n ≤ 1000000) (hnd : l.Nodup) :
    Calls Try.prog 77 #[.slice A n c, .func (.func 78) #[] #[]] w fun e w' => e = .returned (.tuple #[]) ∧ ∃ l', l'.Perm l ∧ Sorted l' ∧ Own w' S 32 3 (.slice A n c) n (l'.flatMap jobV) ∧ Chg (fun i => (Value.slice A n c).ownBlock = some i) w w' := by
  rcases A with _ | ad
  · obtain ⟨rfl, rfl, _⟩ := Splice.own_none hown
    have hcon := Go.Proofs.AnyF.slices_SortFunc_none Shelf.job_lays none 0 (.func (.func 78) #[] #[]) w
    refine hcon.mono fun e w' ⟨h1, h2⟩ => ⟨h1, [], ?_, List.Pairwise.nil, ?_, ?_⟩
    · rw [List.eq_nil_of_length_eq_zero hl]
    · exact Own.nil _ _ _ _
    · rw [h2]; exact Chg.refl _ _
  · obtain ⟨g, cur, rfl, hb, _⟩ := Splice.blk_own hown
    have hg : g < w.heap.size := Pack.lt_of_at hb
    have hcmp : Go.Proofs.CmpLays Try.prog 78 #[] jobV 3 cf g 0 l.toArray.size w := fun m os dk _ x y =>
      (order_exact x y _).mono fun e w' ⟨h1, os', h2⟩ => ⟨h1, 0, os', h2⟩
    have eg : ∀ args w, (callFunc 78 args).run Try.prog w = .ok (.enter 78 args) w := enters_of Try.func78 (by kernel_rfl) rfl
    have hcon := Go.Proofs.AnyQ.slices_SortFunc_total Shelf.job_lays 3 Try.isAgg32 Try.sizeOf32 jobV (fun _ => rfl) jobV_one cf swo 78 #[] g 0 c l.toArray w eg hcmp (holds_own hown) hg (by simp; omega) (fun x y h1 h2 => by rw [ltOf_cf] at h1 h2; exact UrgP.total h1 h2)
    rw [show l.toArray.size = n by simpa using hl] at hcon
    refine hcon.mono fun e w' ⟨h1, m, os, h2⟩ => ?_
    have hp := List.mergeSort_perm l.toArray.toList (fun x y => !(Go.Proofs.ltOf cf) y x)
    have hs := List.pairwise_mergeSort (le := fun x y => !(Go.Proofs.ltOf cf) y x) (fun a b c h1 h2 => by
      rw [ltOf_cf] at *
      simp only [Bool.not_eq_true'] at *
      exact ntrans h2 h1) (fun a b => by
      rw [ltOf_cf]
      cases hab : UrgP.ahead b a with
      | false => rfl
      | true => rw [asym hab]; rfl) l.toArray.toList
    obtain ⟨l', hl'⟩ : ∃ l', l' = l.toArray.toList.mergeSort (fun x y => !(Go.Proofs.ltOf cf) y x) := ⟨_, rfl⟩
    rw [← hl'] at hp hs h2
    have hp' : l'.Perm l := by simpa using hp
    obtain ⟨k1, k2⟩ := own_sorted hown m l' (by rw [hp'.length_eq, hl]) os
    rw [← h2] at k1 k2
    refine ⟨h1, l', hp', ?_, k1, k2.mono fun i _ hi => by cases hi; rfl⟩
    have hnd' : l'.Nodup := hp'.nodup_iff.2 hnd
    exact hs.imp₂ (fun a b h3 h4 => by
      rw [ltOf_cf] at h3
      cases hab : UrgP.ahead a b with
      | true => rfl
      | false => exact absurd (UrgP.total hab (by simpa using h3)) h4) hnd'
set_option maxRecDepth 100000 in
set_option maxHeartbeats 2000000 in
theorem all_calls (S : Nat → Prop) (gq gm : Nat) (l : List Job) (w : World) (h : QueAt w S gq gm l) (hlen : l.length ≤ 1000000) :
    Calls Try.prog 17 #[.pointer (some ⟨gq, 0, none⟩)] w fun e w' => Ext w w' ∧ ∃ A c l', e = .returned (.slice A l.length c) ∧ l'.Perm l ∧ Sorted l' ∧ New w w' 32 3 A l.length c (l'.flatMap jobV) := by
  obtain ⟨A, c, hat, hown⟩ := h.row
  have c0 : w.cell? ⟨gq, 0, none⟩ = some (.slice A l.length c) := blk_cell (i := 0) hat (Ext.refl _) rfl
  have hnd : l.Nodup := by
    have := nodup_key h.nodup
    unfold List.Nodup at this ⊢
    rw [List.pairwise_map] at this
    exact this.imp fun h1 h2 => h1 (by rw [h2])
  have HN := Lib.hid hnd
  have HO := Lib.hid hown
  clear h hat hown hnd
  go_enter Try.func17, Try.ntmps17
  go_wp2_with fail
  refine (clone_calls S A l.length c l w HO.out hlen).mono ?_
  rintro e w1 ⟨he1, A1, c1, rfl, ho1⟩
  have HE1 := Lib.hid he1
  have HO1 := Lib.hid ho1
  clear he1 ho1 c0
  go_wp2_with fail
  refine (sort_calls (fun i => w.heap.size ≤ i) A1 l.length c1 l w1 HO1.out rfl hlen HN.out).mono ?_
  rintro e w2 ⟨rfl, l', hp, hs, ho2, hc2⟩
  have HE2 := Lib.hid (HE1.out.chg hc2 (fun i hi => HO1.out.foot i hi))
  have HR := Lib.hid (And.intro hp (And.intro hs ho2))
  clear hp hs ho2 hc2
  go_wp2_with fail
  go_ret
  exact ⟨HE2.out, A1, c1, l', rfl, HR.out.1, HR.out.2.1, HR.out.2.2⟩
theorem all_nil (w : World) : Calls Try.prog 17 #[.pointer none] w fun e w' => e = .returned (.slice none 0 0) ∧ w = w' := by
  go_enter Try.func17, Try.ntmps17
  go_wp2_with fail
  go_ret
  exact ⟨rfl, rfl⟩
end Go.Proofs.Ytipmkddcdnbihaa.Urg
