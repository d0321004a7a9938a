/- A queue's Pop: walked. -/
import Derived.Test.YtipmkddcdnbihaaUrgG
namespace Go.Proofs.Ytipmkddcdnbihaa.Urg
open Go.RowKit Base Step MapIs Vec
open UrgP
/-- What Pop comes to. -/
def Popped (S : Nat → Prop) (gq gm : Nat) (l : List Job) (w : World) (e : Ending) (w' : World) : Prop :=
  (l = [] ∧ e = .returned (.tuple #[jobA ⟨0, 0, 0⟩, .bool false]) ∧ Ext w w') ∨ (l ≠ [] ∧ e = .returned (.tuple #[jobA (at_ l 0), .bool true]) ∧ Chg S w w' ∧ ∃ l', QueAt w' S gq gm l' ∧ UrgP.Heap l' ∧ l'.Perm (without l (UrgP.key (at_ l 0))))
set_option maxRecDepth 100000 in
set_option maxHeartbeats 2000000 in
theorem pop_calls (S : Nat → Prop) (gq gm : Nat) (l : List Job) (w : World) (h : QueAt w S gq gm l) (hH : UrgP.Heap l) (hlen : l.length ≤ 1000000) :
    Calls Try.prog 19 #[.pointer (some ⟨gq, 0, none⟩)] w (Popped S gq gm l w) := by
  have e1 := Ext.new w (.cells #[.int .u32 0, .int .u16 0, .int .i64 0] 32)
  have hb1 := at_new w (.cells #[.int .u32 0, .int .u16 0, .int .i64 0] 32)
  have HL := Lib.hid h.lt
  have H1 := Lib.hid (h.ext e1)
  have E1 := Lib.hid e1
  have HH := Lib.hid hH
  clear h e1 hH
  go_enter Try.func19, Try.ntmps19
  go_upto_region 1 with fail
  generalize w.alloc (.cells #[.int .u32 0, .int .u16 0, .int .i64 0] 32) = wa at *
  have B1 := Lib.hid hb1
  clear hb1
  go_wp2_with fail
  refine (first_calls S gq gm l wa H1.out (by omega)).mono ?_
  rintro e w2 ⟨he2, hr⟩
  have E2 := Lib.hid (E1.out.trans he2)
  have H2 := Lib.hid (H1.out.ext he2)
  have B2 := Lib.hid (he2.at_ B1.out)
  have e3 := Ext.new w2 (.cells #[.int .u32 0, .int .u16 0, .int .i64 0] 32)
  clear he2
  rcases hr with ⟨hl, rfl⟩ | ⟨hl, rfl⟩
  · have HN := Lib.hid hl
    clear hl
    go_wp2_with (first
      | (refine RowSt.wpList_put 32 _ _ rfl rfl rfl w2.heap.size #[.int .u32 0, .int .u16 0, .int .i64 0] rfl rfl 32 _ (at_new _ _) (by kernel_rfl) rfl (by simp [Value.oneCell']) ?_; intro w3 hb3 hc3; have E3 := Lib.hid (e3.chg hc3 (fun q k => by have k : q = w2.heap.size := k; omega)); have c0 := blk_cell (i := 0) hb3 (Ext.refl _) rfl; have c1 := blk_cell (i := 1) hb3 (Ext.refl _) rfl; have c2 := blk_cell (i := 2) hb3 (Ext.refl _) rfl; have hb4 := E3.out.at_ B2.out; clear hb3 hc3)
      | (refine RowSt.wpList_put 32 _ _ rfl rfl rfl w.heap.size #[.int .u32 0, .int .u16 0, .int .i64 0] rfl rfl 32 _ hb4 (by kernel_rfl) rfl (by simp [Value.oneCell']) ?_; intro w8 hb8 hc8))
    refine bodyPost_ret (v := .tuple #[jobA ⟨0, 0, 0⟩, .bool false]) (RowSt.results_cell_tmp (p := 2) (q := 3) rfl _ _ w.heap.size 32 _ (0, 0) _ rfl hb8 Try.underlying32 rfl (by kernel_rfl)) rfl ?_
    exact .inl ⟨HN.out, rfl, (E2.out.trans E3.out).chg hc8 fun q h => by have h : q = w.heap.size := h; omega⟩
  · have HN := Lib.hid hl
    clear hl
    obtain ⟨j, hj⟩ : ∃ j, j = at_ l 0 := ⟨_, rfl⟩
    rw [← hj]
    have HJ := Lib.hid hj
    clear hj
    have hok : Ok j := by rw [HJ.out]; exact H2.out.ok _ (at_mem (List.length_pos_iff.2 HN.out))
    have HK := Lib.hid hok
    clear hok
    go_wp2_with (refine RowSt.wpList_put 32 _ _ rfl rfl rfl w2.heap.size #[.int .u32 j.o, .int .u16 j.s, .int .i64 j.g] rfl rfl 32 _ (at_new _ _) (by kernel_rfl) rfl (by simp [Value.oneCell']) ?_; intro w3 hb3 hc3; have E3 := Lib.hid (e3.chg hc3 (fun q k => by have k : q = w2.heap.size := k; omega)); have c0 := blk_cell (i := 0) hb3 (Ext.refl _) rfl; have c1 := blk_cell (i := 1) hb3 (Ext.refl _) rfl; have c2 := blk_cell (i := 2) hb3 (Ext.refl _) rfl; have B3 := Lib.hid hb3; clear hb3 hc3)
    have hs2 : w.heap.size < w2.heap.size := Pack.lt_of_at B2.out
    have hs1 : w.heap.size ≤ w2.heap.size := by omega
    refine (drop_calls S gq gm l j.o j.s w3 (H2.out.ext E3.out) HH.out HK.out.o0 HK.out.o1 HK.out.s0 HK.out.s1 hlen).mono ?_
    rintro e w4 hd
    have hpos : posOf l (j.o, j.s) ≠ none := fun hn => posOf_none hn _ (at_mem (List.length_pos_iff.2 HN.out)) (by rw [← HJ.out])
    rcases hd with ⟨hn, _⟩ | ⟨_, rfl, hc4, l', hq4, hh4, hp4⟩
    · exact absurd hn hpos
    have hb5 := hc4.at_ (E3.out.at_ B2.out) (fun k => by have := HL.out _ k; omega)
    have hb6 := hc4.at_ B3.out (fun k => by have := HL.out _ k; omega)
    have d0 := blk_cell (i := 0) hb6 (Ext.refl _) rfl
    have d1 := blk_cell (i := 1) hb6 (Ext.refl _) rfl
    have d2 := blk_cell (i := 2) hb6 (Ext.refl _) rfl
    have HQ := Lib.hid hq4
    have HHH := Lib.hid hh4
    have HP := Lib.hid hp4
    have HC := Lib.hid (ext_chg (E2.out.trans E3.out) hc4)
    clear hq4 hh4 hp4 hc4 hb6 c0 c1 c2 hpos
    go_wp2_with (refine RowSt.wpList_put 32 _ _ rfl rfl rfl w.heap.size #[.int .u32 j.o, .int .u16 j.s, .int .i64 j.g] rfl rfl 32 _ hb5 (by kernel_rfl) rfl (by simp [Value.oneCell']) ?_; intro w8 hb8 hc8)
    refine bodyPost_ret (v := .tuple #[jobA j, .bool true]) (RowSt.results_cell_tmp (p := 2) (q := 3) rfl _ _ w.heap.size 32 _ (0, 0) _ rfl hb8 Try.underlying32 rfl (by kernel_rfl)) rfl ?_
    refine .inr ⟨HN.out, by rw [HJ.out], HC.out.step hc8 (fun q hq k => by have k : q = w.heap.size := k; omega), l', HQ.out.chg hc8 (fun q hq k => by have k : q = w.heap.size := k; have := HL.out _ hq; omega), HHH.out, ?_⟩
    have := HP.out
    rwa [show ((j.o, j.s) : Int × Int) = UrgP.key (at_ l 0) by rw [← HJ.out]] at this
end Go.Proofs.Ytipmkddcdnbihaa.Urg
