/- The document's reading of a line, walked: a line of put. -/
import Derived.Test.YtfhgjopoohfhjaaScriptR
import Derived.Test.YtfhgjopoohfhjaaLexU
namespace Go.Proofs.Ytfhgjopoohfhjaa.Script
open Go.RowKit Base Step Vec
open ScriptP (L nm nameI kindOf Kind form formI digits digitsI numP numR chr cut St words putR)
theorem own_at {w : World} {S : Nat → Prop} {e : TypeId} {A : Option Addr} {n c : Nat} {vs : List Value} (h : Own w S e 1 (.slice A n c) n vs) (h0 : 0 < n) : ∃ g, A = some ⟨g, 0, none⟩ ∧ ∀ j u, vs[j]? = some u → w.cell? ⟨g, j, none⟩ = some u := by
  rcases h.row.2 with ⟨h2, h3⟩ | ⟨g, cap, cur, h2, _⟩
  · omega
  · injection h2 with h2
    subst h2
    refine ⟨g, rfl, fun j u hu => ?_⟩
    have := h.row.cells (g := g) rfl j u hu
    rw [show (⟨g, 0, none⟩ : Addr).add j = ⟨g, j, none⟩ by unfold Addr.add; split <;> simp_all] at this
    exact this
theorem strs_at {ws : List L} {j : Nat} {x : L} (h : ws[j]? = some x) : (strs ws)[j]? = some (.string (S x)) := by simp [strs, h]
theorem put_room {l : L} (h : 3 ≤ (words l).length) : ((words l).getD 0 []).length + ((words l).getD 1 []).length + 2 ≤ l.length := by
  have h1 := ScriptP.line_join l
  rw [ScriptP.words_cut] at h ⊢
  generalize ScriptP.rem (cut l).2.1 (cut l).2.2 = r at *
  generalize (cut l).1 = a at *
  match r, h with
  | b :: d :: r, _ =>
    subst h1
    simp only [ScriptP.joinW, List.getD_cons_zero, List.getD_cons_succ, List.length_append, List.length_cons]
    omega
/-- What a line read by the document comes to. -/
def ReadPost (w : World) (e : Ending) (w' : World) (o : Option St) : Prop := Ext w w' ∧ match o with
  | none => e = .returned (.tuple #[stV (St.of 0) none 0 0, .bool false])
  | some s => ∃ D n c, e = .returned (.tuple #[stV s D n c, .bool true]) ∧ Rd w' .u8 D n (ints s.data) ∧ ∀ ad, D = some ad → w.heap.size ≤ ad.block
/-- Bytes in a block that was not there. -/
def newN (w0 : World) (n : Nat) (xs : List Int) : Lex.Loose := ⟨fun v => ∃ g c, v = .slice (some ⟨g, 0, none⟩) n c ∧ w0.heap.size ≤ g, fun v W => ∀ A c, v = .slice A n c → Rd W .u8 A n xs⟩
theorem newN_st {w0 : World} {n : Nat} {xs : List Int} : ∀ v W W', (newN w0 n xs).R v W → Ext W W' → (newN w0 n xs).R v W' := fun _ _ _ h he A c e => (h A c e).ext he
set_option maxRecDepth 100000 in
set_option maxHeartbeats 4000000 in
theorem put_calls (t : ByteArray) (w : World) (ht : t.size ≤ 1000000) :
    Calls Try.prog 111 #[.string t] w fun e w' => ReadPost w e w' (putR t.data.toList) := by
  obtain ⟨l, hl⟩ : ∃ l, t.data.toList = l := ⟨_, rfl⟩
  have hsz : l.length = t.size := by rw [← hl]; simp
  have HW := words_calls t
  rw [hl] at HW ⊢
  have hr1 := at_new w (.cells (cellsV (St.of 0) none 0 0) 43)
  have hE1 := Ext.new w (.cells (cellsV (St.of 0) none 0 0) 43)
  have HR1 := Lib.hid hr1
  have HE1 := Lib.hid hE1
  clear hr1 hE1
  go_enter Try.func111, Try.ntmps111
  go_wp2_with fail
  refine (HW _ ht).mono ?_
  rintro e w2 ⟨A, c, rfl, ho, he⟩
  have HR := Lib.hid (he.at_ HR1.out)
  have HE := Lib.hid (HE1.out.trans he)
  have hgr : w.heap.size < w2.heap.size := (Array.getElem?_eq_some_iff.1 HR.out).1
  clear HW HR1 HE1 he
  obtain ⟨n, hn⟩ : ∃ n, (words l).length = n := ⟨_, rfl⟩
  rw [hn] at ho ⊢
  by_cases h3 : n < 3
  · have HF : Hid (putR l = none) := Lib.hid (by unfold putR; rw [if_pos (by omega)])
    go_wp2_with (refine RowSt.wpList_put 43 _ _ rfl rfl rfl w.heap.size (cellsV (St.of 0) none 0 0) rfl rfl 43 _ HR.out (by kernel_rfl) rfl (cells_one _ _ _ _) ?_; intro w8 hb8 hc8)
    refine bodyPost_ret (v := .tuple #[.agg (cellsV (St.of 0) none 0 0), .bool false]) (RowSt.results_cell_tmp (p := 2) (q := 3) rfl _ _ w.heap.size 43 (cellsV (St.of 0) none 0 0) (0, 0) _ rfl hb8 Try.underlying43 rfl (by kernel_rfl)) rfl ?_
    refine ⟨HE.out.chg hc8 fun i hi => by rw [hi]; exact Nat.le_refl _, ?_⟩
    rw [HF.out]
  · obtain ⟨g, rfl, hc⟩ := own_at ho (by omega)
    obtain ⟨x0, hx0⟩ : ∃ x, (words l)[0]? = some x := ⟨_, List.getElem?_eq_getElem (by omega)⟩
    obtain ⟨x1, hx1⟩ : ∃ x, (words l)[1]? = some x := ⟨_, List.getElem?_eq_getElem (by omega)⟩
    have hroom := put_room (l := l) (by omega)
    rw [show (words l).getD 0 [] = x0 by simp [List.getD_eq_getElem?_getD, hx0], show (words l).getD 1 [] = x1 by simp [List.getD_eq_getElem?_getD, hx1], hsz] at hroom
    have HF : Hid (putR l = some ⟨1, x1, l.drop (x0.length + x1.length + 2), 0, 0, 0, 0⟩) := Lib.hid (by
      unfold putR
      rw [if_neg (by omega)]
      rw [show (words l).getD 0 [] = x0 by simp [List.getD_eq_getElem?_getD, hx0], show (words l).getD 1 [] = x1 by simp [List.getD_eq_getElem?_getD, hx1]])
    have e0 : ∀ W', Ext w2 W' → W'.cell? ⟨g, 0, none⟩ = some (.string (S x0)) := fun W' hW => hW.cell_ (hc 0 _ (strs_at hx0))
    have e1 : ∀ W', Ext w2 W' → W'.cell? ⟨g, 1, none⟩ = some (.string (S x1)) := fun W' hW => hW.cell_ (hc 1 _ (strs_at hx1))
    have hxr : t.extract (x0.length + x1.length + 2) t.size = S (l.drop (x0.length + x1.length + 2)) := by
      rw [ext_eq, hl, List.take_of_length_le (by rw [List.length_drop, hsz]; exact Nat.le_refl _)]
    obtain ⟨r, hr⟩ : ∃ r, l.drop (x0.length + x1.length + 2) = r := ⟨_, rfl⟩
    have hrl : r.length ≤ t.size := by rw [← hr, List.length_drop]; omega
    rw [hr] at hxr
    have HF2 : Hid (putR l = some ⟨1, x1, r, 0, 0, 0, 0⟩) := Lib.hid (by rw [HF.out, hr])
    clear hr HF
    have HX := Lib.hid hxr
    have hsl0 : (S x0).size = x0.length := by simp [ByteArray.size]
    have hsl1 : (S x1).size = x1.length := by simp [ByteArray.size]
    clear hxr hc hx0 hx1 ho
    have hi0 : 0 < n := by omega
    have wA : IntKind.i64.wrap ((x0.length : Int) + x1.length) = x0.length + x1.length := IntWalk.i64_in _ (by omega)
    have wB : IntKind.i64.wrap ((x0.length : Int) + x1.length + 2) = x0.length + x1.length + 2 := IntWalk.i64_in _ (by omega)
    have b0 : (0 : Int) ≤ (x0.length : Int) + x1.length + 2 := by omega
    have b1 : (x0.length : Int) + x1.length + 2 ≤ t.size := by omega
    have b2 : ((x0.length : Int) + x1.length + 2).toNat = x0.length + x1.length + 2 := by omega
    have hi1 : (1 : Int) < n := by omega
    go_wp2_with fail
    refine Lex.wp_region_u [0, 1, 2, 3, 4, 5, 6, 7, 8, 9, 10, 11, 12, 13, 14, 15, 16] [17, 18] [] (by kernel_rfl) (by kernel_rfl) (by repeat (first | exact Lex.st_nil | refine Lex.st_cons (by first | exact Lex.nums_st | exact Lex.const_st | exact Lex.such_st | exact Lex.row_st | exact Lex.rowE_st | exact Lex.litR_st | assumption) ?_)) ?_; simp only [Lex.pick, List.getElem?_cons_succ, List.getElem?_cons_zero, List.map_cons, List.map_nil]
    repeat (first | (refine Lex.lexU_skip (by rfl) ?_; simp only [Act.put, List.setIfInBounds_toArray, List.set_cons_zero, List.set_cons_succ]) | (refine Lex.lexU_still (by rfl) (by rfl) (by first | exact Base.Ext.refl | exact Lex.Fill.refl) ?_; apply Exists.intro; refine ⟨fun W hW => ?_, ?_⟩; (have hE := Lex.ext_of_cls hW.1; have hE2 := Lex.ext_drew hE; clear hW; go_simp; try with_reducible rfl); simp only [Act.put, List.setIfInBounds_toArray, List.set_cons_zero, List.set_cons_succ]))
    refine Lex.lexU_such (by rfl) (by rfl) (newN w2 r.length (ints r)) (newN_st) (fun W hW => ?_) ?_
    · have hE := Lex.ext_drew (Lex.ext_of_cls hW.1)
      clear hW
      go_simp
      rw [HX.out]
      obtain ⟨c9, W9, hrun, he9, hrd, _⟩ := run_bytes W r (by omega)
      rw [hrun]
      exact ⟨⟨_, _, rfl, hE.size⟩, he9, fun A c e => by cases e; exact hrd⟩
    rintro v ⟨gd, c9, rfl, hgd⟩
    simp only [Act.put, List.setIfInBounds_toArray, List.set_cons_zero, List.set_cons_succ]
    repeat (first | (refine Lex.lexU_skip (by rfl) ?_; simp only [Act.put, List.setIfInBounds_toArray, List.set_cons_zero, List.set_cons_succ]) | (refine Lex.lexU_still (by rfl) (by rfl) (by first | exact Base.Ext.refl | exact Lex.Fill.refl) ?_; apply Exists.intro; refine ⟨fun W hW => ?_, ?_⟩; (have hE := Lex.ext_of_cls hW.1; have hE2 := Lex.ext_drew hE; clear hW; go_simp; try with_reducible rfl); simp only [Act.put, List.setIfInBounds_toArray, List.set_cons_zero, List.set_cons_succ]))
    refine Lex.lexU_nil (fun W hW => ?_)
    have hE := Lex.ext_drew (Lex.ext_of_cls hW.1)
    have hrd := (hW.2 15).2 rfl _ c9 rfl
    have HRD := Lib.hid hrd
    have HRW := Lib.hid (hE.at_ HR.out)
    have HEW := Lib.hid (HE.out.trans hE)
    clear hW e0 e1 hrd hE
    go_wp2_with (refine RowSt.wpList_put 43 _ _ rfl rfl rfl w.heap.size (cellsV ⟨1, x1, r, 0, 0, 0, 0⟩ (some ⟨gd, 0, none⟩) r.length c9) rfl rfl 43 _ HRW.out (by kernel_rfl) rfl (cells_one _ _ _ _) ?_; intro w8 hb8 hc8)
    try simp only [Lex.onlyN]
    go_wp2_with fail
    refine bodyPost_ret (v := .tuple #[.agg (cellsV ⟨1, x1, r, 0, 0, 0, 0⟩ (some ⟨gd, 0, none⟩) r.length c9), .bool true]) (RowSt.results_cell_tmp (p := 2) (q := 3) rfl _ _ w.heap.size 43 (cellsV ⟨1, x1, r, 0, 0, 0, 0⟩ (some ⟨gd, 0, none⟩) r.length c9) (0, 0) _ rfl hb8 Try.underlying43 rfl (by kernel_rfl)) rfl ?_
    refine ⟨HEW.out.chg hc8 fun i hi => by rw [hi]; exact Nat.le_refl _, ?_⟩
    rw [HF2.out]
    exact ⟨_, _, _, rfl, HRD.out.chg hc8 fun ad e _ h => by cases e; have h : gd = w.heap.size := h; omega, fun ad e => by cases e; show w.heap.size ≤ gd; omega⟩
end Go.Proofs.Ytfhgjopoohfhjaa.Script
