/- Find and At, walked. -/
import Derived.Test.YtfhgjopoohfhjaaTableD
namespace Go.Proofs.Ytfhgjopoohfhjaa.Tbl
open Go.RowKit Base Step Vec Shape Erase
/-- The object that is told where there is none. -/
def zobj : Obj := ((0 : Int), (⟨#[]⟩ : ByteArray), ((0 : Int), (0 : Int), (0 : Int), ()), (none, 0, 0, []), ())
/-- An object of a size that can be walked. -/
def Small (o : Obj) : Prop := pN o ≤ 1099511627776 ∧ ∀ r ∈ rows o, rN r ≤ 8796093021952
theorem Copied.from {w0 w w' : World} {o o' : Obj} (h : Copied w w' o o') (he : Ext w0 w) : Copied w0 w' o o' :=
  ⟨h.num, h.name, h.plan, h.len, h.prow.mono fun i _ k => Nat.le_trans he.size k, h.rlen, fun i r r' h1 h2 => ⟨(h.alike i r r' h1 h2).1, Own.mono (h.alike i r r' h1 h2).2 fun i _ k => Nat.le_trans he.size k⟩, h.apart, he.trans h.ext⟩
theorem Copied.put {w w' w2 : World} {o o' : Obj} {b : Nat} {cs : Array Value} {fr : Nat × Nat} (h : Copied w w' o o') (hb : w'.heap[b]? = some (.cells cs 108 fr)) (hc : Chg (fun i => i = b) w' w2) (hn : w.heap.size ≤ b) : Copied w w2 o o' := by
  have hk : ∀ e, e ≠ 108 → ∀ i, i = b → i < w'.heap.size → ∃ c e' f, w'.heap[i]? = some (.cells c e' f) ∧ e ≠ e' := fun e he i hi _ => by subst hi; exact ⟨_, _, _, hb, he⟩
  exact ⟨h.num, h.name, h.plan, h.len, Own.kind h.prow hc (hk _ (by decide)), h.rlen, fun i r r' h1 h2 => ⟨(h.alike i r r' h1 h2).1, Own.kind (h.alike i r r' h1 h2).2 hc (hk _ (by decide))⟩, h.apart, h.ext.chg hc fun i hi => by rw [hi]; exact hn⟩
theorem Copied.ext_ {w w' w2 : World} {o o' : Obj} (h : Copied w w' o o') (he : Ext w' w2) : Copied w w2 o o' :=
  ⟨h.num, h.name, h.plan, h.len, Own.extNew h.prow he, h.rlen, fun i r r' h1 h2 => ⟨(h.alike i r r' h1 h2).1, Own.extNew (h.alike i r r' h1 h2).2 he⟩, h.apart, h.ext.trans he⟩
/-- What Find and At tell. -/
def Told (w : World) (x : Option Obj) (e : Ending) (w' : World) : Prop :=
  match x with
  | none => e = .returned (.tuple #[objV zobj, .bool false]) ∧ Ext w w'
  | some o => ∃ o', e = .returned (.tuple #[objV o', .bool true]) ∧ Copied w w' o o'
theorem told_none {w w' : World} (h : Ext w w') : Told w none (.returned (.tuple #[objV zobj, .bool false])) w' := ⟨rfl, h⟩
theorem told_some {w w' : World} {o o' : Obj} (h : Copied w w' o o') : Told w (some o) (.returned (.tuple #[objV o', .bool true])) w' := ⟨o', rfl, h⟩
/-- The object of a name. -/
def found (objs : List Obj) (s : ByteArray) : Option Obj := if there objs s then objs[place objs s]? else none
set_option maxRecDepth 100000 in
set_option maxHeartbeats 2000000 in
theorem find_calls (gt sl nd : Nat) (nx ls : Int) (A : Option Addr) (n c : Nat) (objs : List Obj) (s : ByteArray) (w : World) (h : TblAt w gt sl nd nx ls A n c objs) (hn : n ≤ 1099511627776) (hs : ∀ o ∈ objs, Small o) :
    Calls Try.prog 62 #[.pointer (some ⟨gt, 0, none⟩), .string s] w (Told w (found objs s)) := by
  have he := Lib.hid (Ext.new w (.cells #[.int .u32 0, .string ⟨#[]⟩, .int .i64 0, .int .i64 0, .int .i64 0, .slice none 0 0] 108))
  have hb := at_new w (.cells #[.int .u32 0, .string ⟨#[]⟩, .int .i64 0, .int .i64 0, .int .i64 0, .slice none 0 0] 108)
  have H := Lib.hid h
  have HS := Lib.hid hs
  clear h hs
  go_enter Try.func62, Try.ntmps62
  go_upto_region 1 with fail
  generalize w.alloc (.cells #[.int .u32 0, .string ⟨#[]⟩, .int .i64 0, .int .i64 0, .int .i64 0, .slice none 0 0] 108) = wa at *
  have HB := Lib.hid hb
  clear hb
  go_wp2_with fail
  refine (index_calls gt sl nd nx ls A n c objs s wa (H.out.ext he.out) hn).mono ?_
  rintro e w1 ⟨rfl, he1⟩
  have HE1 := Lib.hid (he.out.trans he1)
  have hb1 := he1.at_ HB.out
  have HB1 := Lib.hid hb1
  clear he1
  by_cases ht : there objs s = true
  · obtain ⟨o, ho, _⟩ := there_at ht
    have hf : found objs s = some o := by unfold found; rw [if_pos ht]; exact ho
    have HF := Lib.hid hf
    rw [ht]
    have hh := H.out.ext HE1.out
    have hpl : place objs s < n := by
      have h1 := (List.getElem?_eq_some_iff.1 ho).1
      have h2 := (sl_len hh.ok).1
      omega
    obtain ⟨ad, o2, hA, ho2, hat, hok⟩ := obj_at (Sh.ok_off hh.ok) hpl
    subst hA
    rw [ho] at ho2
    cases ho2
    obtain ⟨c0, c1, c2, c3, c4, c5⟩ := hat
    have t4 : w1.cell? ⟨gt, 4, none⟩ = some (.slice (some ad) n c) := blk_cell (i := 4) hh.at_ (Ext.refl _) rfl
    have hnc : n ≤ c := (sl_len hh.ok).2.1
    have HOK := Lib.hid hok
    have hsm := HS.out o (List.mem_of_getElem? ho)
    have HSM := Lib.hid hsm
    clear hok hh ho hf ht hsm
    generalize place objs s = k at *
    go_wp2_with fail
    refine (copied_calls o w1 HOK.out HSM.out.1 HSM.out.2).mono ?_
    rintro e w2 ⟨o', rfl, hcp⟩
    have hb2 := hcp.ext.at_ HB1.out
    have HCP := Lib.hid (hcp.from HE1.out)
    clear hcp c0 c1 c2 c3 c4 c5 t4
    go_wp2_with (refine RowSt.wpList_put 108 _ _ rfl rfl rfl w.heap.size #[.int .u32 (num o'), .string (name o'), .int .i64 (plan o').1, .int .i64 (plan o').2.1, .int .i64 (plan o').2.2.1, .slice (pA o') (pN o') (pC o')] rfl rfl 108 _ hb2 (by kernel_rfl) rfl (by simp [Value.oneCell']) ?_; intro w8 hb8 hc8)
    refine bodyPost_ret (v := .tuple #[objV o', .bool true]) (RowSt.results_cell_tmp (p := 4) (q := 5) rfl _ _ w.heap.size 108 _ (0, 0) _ rfl hb8 Try.underlying108 rfl (by kernel_rfl)) rfl ?_
    rw [HF.out]
    exact told_some (HCP.out.put hb2 hc8 (Nat.le_refl _))
  · have ht : there objs s = false := by simpa using ht
    have hf : found objs s = none := by unfold found; rw [ht]; rfl
    have HF := Lib.hid hf
    rw [ht]
    clear ht hf
    go_wp2_with (refine RowSt.wpList_put 108 _ _ rfl rfl rfl w.heap.size #[.int .u32 0, .string ⟨#[]⟩, .int .i64 0, .int .i64 0, .int .i64 0, .slice none 0 0] rfl rfl 108 _ hb1 (by kernel_rfl) rfl (by simp [Value.oneCell']) ?_; intro w8 hb8 hc8)
    refine bodyPost_ret (v := .tuple #[objV zobj, .bool false]) (RowSt.results_cell_tmp (p := 4) (q := 5) rfl _ _ w.heap.size 108 _ (0, 0) _ rfl hb8 Try.underlying108 rfl (by kernel_rfl)) rfl ?_
    rw [HF.out]
    exact told_none (HE1.out.chg hc8 fun i hi => by have hi : i = w.heap.size := hi; omega)
set_option maxRecDepth 100000 in
set_option maxHeartbeats 2000000 in
theorem at_calls (gt sl nd : Nat) (nx ls : Int) (A : Option Addr) (n c : Nat) (objs : List Obj) (k : Nat) (w : World) (h : TblAt w gt sl nd nx ls A n c objs) (hn : n ≤ 1099511627776) (hs : ∀ o ∈ objs, Small o) (hk : k < n) :
    Calls Try.prog 66 #[.pointer (some ⟨gt, 0, none⟩), .int .i64 k] w (Told w objs[k]?) := by
  have he := Lib.hid (Ext.new w (.cells #[.int .u32 0, .string ⟨#[]⟩, .int .i64 0, .int .i64 0, .int .i64 0, .slice none 0 0] 108))
  have hb := at_new w (.cells #[.int .u32 0, .string ⟨#[]⟩, .int .i64 0, .int .i64 0, .int .i64 0, .slice none 0 0] 108)
  have H := Lib.hid h
  have HS := Lib.hid hs
  clear h hs
  go_enter Try.func66, Try.ntmps66
  go_upto_region 1 with fail
  generalize w.alloc (.cells #[.int .u32 0, .string ⟨#[]⟩, .int .i64 0, .int .i64 0, .int .i64 0, .slice none 0 0] 108) = wa at *
  have HB := Lib.hid hb
  clear hb
  go_wp2_with fail
  refine (len_calls gt sl nd nx ls A n c objs wa (H.out.ext he.out)).mono ?_
  rintro e w' ⟨rfl, rfl⟩
  have hh := H.out.ext he.out
  obtain ⟨ad, o, hA, ho, hat, hok⟩ := obj_at (Sh.ok_off hh.ok) hk
  subst hA
  have HO := Lib.hid ho
  obtain ⟨c0, c1, c2, c3, c4, c5⟩ := hat
  have t4 : wa.cell? ⟨gt, 4, none⟩ = some (.slice (some ad) n c) := blk_cell (i := 4) hh.at_ (Ext.refl _) rfl
  have hnc : n ≤ c := (sl_len hh.ok).2.1
  have HOK := Lib.hid hok
  have hsm := HS.out o (List.mem_of_getElem? ho)
  have HSM := Lib.hid hsm
  clear hok hh ho hsm
  go_wp2_with fail
  refine (copied_calls o wa HOK.out HSM.out.1 HSM.out.2).mono ?_
  rintro e w2 ⟨o', rfl, hcp⟩
  have hb2 := hcp.ext.at_ HB.out
  have HCP := Lib.hid (hcp.from he.out)
  clear hcp c0 c1 c2 c3 c4 c5 t4
  go_wp2_with (refine RowSt.wpList_put 108 _ _ rfl rfl rfl w.heap.size #[.int .u32 (num o'), .string (name o'), .int .i64 (plan o').1, .int .i64 (plan o').2.1, .int .i64 (plan o').2.2.1, .slice (pA o') (pN o') (pC o')] rfl rfl 108 _ hb2 (by kernel_rfl) rfl (by simp [Value.oneCell']) ?_; intro w8 hb8 hc8)
  refine bodyPost_ret (v := .tuple #[objV o', .bool true]) (RowSt.results_cell_tmp (p := 4) (q := 5) rfl _ _ w.heap.size 108 _ (0, 0) _ rfl hb8 Try.underlying108 rfl (by kernel_rfl)) rfl ?_
  rw [HO.out]
  exact told_some (HCP.out.put hb2 hc8 (Nat.le_refl _))
end Go.Proofs.Ytfhgjopoohfhjaa.Tbl
