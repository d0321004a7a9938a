/- A table; where an object stands, by its name and by its number. -/
import Derived.Test.YtfhgjopoohfhjaaTableB
import Derived.Outline
import Derived.Deep.DeepCutAuto
namespace Go.Proofs.Ytfhgjopoohfhjaa.Tbl
open Go.RowKit Base Step Vec Shape Erase
/-- A table at block gt; its objects are read beside it. -/
structure TblAt (w : World) (gt sl nd : Nat) (nx ls : Int) (A : Option Addr) (n c : Nat) (objs : List Obj) : Prop where
  at_ : w.heap[gt]? = some (.cells #[.int .i64 sl, .int .i64 nd, .int .u32 nx, .int .u32 ls, .slice A n c] 215 (0, 0))
  ok : (Sh.sl objS).ok (erase w gt) (A, n, c, objs)
theorem TblAt.ext {w w' : World} {gt sl nd : Nat} {nx ls : Int} {A : Option Addr} {n c : Nat} {objs : List Obj} (h : TblAt w gt sl nd nx ls A n c objs) (he : Ext w w') : TblAt w' gt sl nd nx ls A n c objs := ⟨he.at_ h.at_, Sh.ok_ext (erase_ext he) _ _ h.ok⟩
theorem TblAt.lt {w : World} {gt sl nd : Nat} {nx ls : Int} {A : Option Addr} {n c : Nat} {objs : List Obj} (h : TblAt w gt sl nd nx ls A n c objs) : gt < w.heap.size := Pack.lt_of_at h.at_
set_option maxRecDepth 100000 in
theorem index_calls (gt sl nd : Nat) (nx ls : Int) (A : Option Addr) (n c : Nat) (objs : List Obj) (s : ByteArray) (w : World) (h : TblAt w gt sl nd nx ls A n c objs) (hn : n ≤ 1099511627776) :
    Calls Try.prog 123 #[.pointer (some ⟨gt, 0, none⟩), .string s] w fun e w' => e = .returned (.tuple #[.int .i64 (place objs s), .bool (there objs s)]) ∧ Ext w w' := by
  have c4 : w.cell? ⟨gt, 4, none⟩ = some (.slice A n c) := blk_cell (i := 4) h.at_ (Ext.refl _) rfl
  have HO := Lib.hid (Sh.ok_off h.ok)
  clear h
  go_enter Try.func123, Try.ntmps123
  go_wp2_with fail
  refine (search_calls A n c objs s w HO.out hn).mono ?_
  rintro e w1 ⟨rfl, he1⟩
  have HE := Lib.hid he1
  clear he1
  go_wp2_with fail
  go_ret2
  exact ⟨rfl, HE.out⟩
set_option maxRecDepth 100000 in
theorem len_calls (gt sl nd : Nat) (nx ls : Int) (A : Option Addr) (n c : Nat) (objs : List Obj) (w : World) (h : TblAt w gt sl nd nx ls A n c objs) :
    Calls Try.prog 65 #[.pointer (some ⟨gt, 0, none⟩)] w fun e w' => e = .returned (.int .i64 n) ∧ w = w' := by
  have c4 : w.cell? ⟨gt, 4, none⟩ = some (.slice A n c) := blk_cell (i := 4) h.at_ (Ext.refl _) rfl
  clear h
  go_enter Try.func65, Try.ntmps65
  go_wp2_with fail
  go_ret
  exact ⟨rfl, rfl⟩
set_option maxRecDepth 100000 in
theorem isNum_calls (o : Obj) (k : Int) (gb : Nat) (w : World) (hb : w.heap[gb]? = some (.cells #[.int .u32 k] 77 (0, 0))) :
    Calls Try.prog 205 #[objV o, .pointer (some ⟨gb, 0, none⟩)] w fun e w' => e = .returned (.bool (num o == k)) ∧ Ext w w' := by
  have he := Lib.hid (Ext.new w (.cells #[.int .u32 (num o), .string (name o), .int .i64 (plan o).1, .int .i64 (plan o).2.1, .int .i64 (plan o).2.2.1, .slice (pA o) (pN o) (pC o)] 108))
  have hn := at_new w (.cells #[.int .u32 (num o), .string (name o), .int .i64 (plan o).1, .int .i64 (plan o).2.1, .int .i64 (plan o).2.2.1, .slice (pA o) (pN o) (pC o)] 108)
  have HB := Lib.hid hb
  clear hb
  go_enter Try.func205, Try.ntmps205
  go_upto_region 1 with fail
  generalize w.alloc (.cells #[.int .u32 (num o), .string (name o), .int .i64 (plan o).1, .int .i64 (plan o).2.1, .int .i64 (plan o).2.2.1, .slice (pA o) (pN o) (pC o)] 108) = w1 at *
  have c0 : w1.cell? ⟨w.heap.size, 0, none⟩ = some (.int .u32 (num o)) := blk_cell (i := 0) hn (Ext.refl _) rfl
  have b0 : w1.cell? ⟨gb, 0, none⟩ = some (.int .u32 k) := blk_cell (i := 0) (he.out.at_ HB.out) (Ext.refl _) rfl
  go_wp2_with fail
  go_ret
  exact ⟨rfl, he.out⟩
/-- The first place from i on at which a number is; below 0: nowhere. -/
def numFrom (k : Int) : List Obj → Nat → Int
  | [], _ => -1
  | o :: l, i => if num o = k then i else numFrom k l (i + 1)
def numAt (objs : List Obj) (k : Int) : Int := numFrom k objs 0
theorem numFrom_spec (k : Int) : ∀ (l : List Obj) (i : Nat), (numFrom k l i = -1 ∧ ∀ o ∈ l, num o ≠ k) ∨ ∃ j o, numFrom k l i = ((i + j : Nat) : Int) ∧ l[j]? = some o ∧ num o = k
  | [], i => .inl ⟨rfl, by simp⟩
  | o :: l, i => by
    unfold numFrom
    by_cases h : num o = k
    · rw [if_pos h]
      exact .inr ⟨0, o, rfl, rfl, h⟩
    · rw [if_neg h]
      rcases numFrom_spec k l (i + 1) with ⟨h1, h2⟩ | ⟨j, p, h1, h2, h3⟩
      · exact .inl ⟨h1, fun q hq => (List.mem_cons.1 hq).elim (fun e => e ▸ h) (h2 q)⟩
      · exact .inr ⟨j + 1, p, by rw [h1]; congr 1; omega, h2, h3⟩
set_option maxRecDepth 100000 in
set_option maxHeartbeats 2000000 in
theorem indexFunc_calls (A : Option Addr) (n c : Nat) (objs : List Obj) (k : Int) (gb : Nat) (w : World) (h : (Sh.sl objS).ok w (A, n, c, objs)) (hn : n ≤ 1099511627776) (hb : w.heap[gb]? = some (.cells #[.int .u32 k] 77 (0, 0))) :
    Calls Try.prog 204 #[.slice A n c, .func (.func 205) #[] #[.pointer (some ⟨gb, 0, none⟩)]] w fun e w' => e = .returned (.int .i64 (numAt objs k)) ∧ Ext w w' := by
  obtain ⟨hl, hnc, _, _⟩ := sl_len h
  have H := Lib.hid h
  have HL := Lib.hid hl
  have HB := Lib.hid hb
  clear h hl hb
  go_enter Try.func204, Try.ntmps204
  go_wp2_with fail
  go_loopg [5, 8] n (fun g _ i wr => ∃ a : Nat, a ≤ n ∧ g = n - a ∧ i = .int .i64 a ∧ Hid (numFrom k (objs.drop a) a = numAt objs k) ∧ Hid (Ext w wr))
  case atStart => exact ⟨0, Nat.zero_le _, rfl, rfl, Lib.hid rfl, Lib.hid (Ext.refl _)⟩
  case round =>
    obtain ⟨a, han, rfl, rfl, HN, HX⟩ := hrel
    by_cases hlt : a < n
    · obtain ⟨ad, o, rfl, ho, hat, _⟩ := obj_at H.out hlt
      obtain ⟨c0, c1, c2, c3, c4, c5⟩ := hat.ext HX.out
      have hst := HN.out
      have hal : a < objs.length := by rw [HL.out]; exact hlt
      rw [List.drop_eq_getElem_cons hal] at hst
      have hoe : objs[a] = o := by rw [List.getElem?_eq_getElem hal] at ho; exact Option.some.inj ho
      rw [hoe] at hst
      unfold numFrom at hst
      have HST := Lib.hid hst
      clear hat ho hst HN hoe hal
      go_wp2_with fail
      refine (isNum_calls o k gb wr (HX.out.at_ HB.out)).mono ?_
      rintro e w4 ⟨rfl, he4⟩
      have HX4 := Lib.hid (HX.out.trans he4)
      have hst := HST.out
      clear he4 c0 c1 c2 c3 c4 c5 HST
      by_cases hk : num o = k
      · rw [if_pos hk] at hst
        have HS2 := Lib.hid hst
        rw [show (num o == k) = true by simp [hk]]
        clear hst hk
        go_wp2_with fail
        go_ret
        exact ⟨by rw [← HS2.out]; rfl, HX4.out⟩
      · rw [if_neg hk] at hst
        have HS2 := Lib.hid hst
        rw [show (num o == k) = false by simp [hk]]
        clear hst hk
        go_wp2_with fail
        go_roundg (n - (a + 1))
        case measure => omega
        case rel => exact ⟨a + 1, by omega, rfl, by first | rfl | go_num, HS2, HX4⟩
    · obtain rfl : a = n := by omega
      have hst := HN.out
      rw [List.drop_of_length_le (by rw [HL.out]; exact Nat.le_refl _)] at hst
      have HS2 : Hid (-1 = numAt objs k) := Lib.hid hst
      clear hst HN
      go_wp2_with fail
      go_ret
      exact ⟨by rw [← HS2.out]; rfl, HX.out⟩
set_option maxRecDepth 100000 in
theorem number_calls (gt sl nd : Nat) (nx ls : Int) (A : Option Addr) (n c : Nat) (objs : List Obj) (k : Int) (w : World) (h : TblAt w gt sl nd nx ls A n c objs) (hn : n ≤ 1099511627776) :
    Calls Try.prog 174 #[.pointer (some ⟨gt, 0, none⟩), .int .u32 k] w fun e w' => e = .returned (.int .i64 (numAt objs k)) ∧ Ext w w' := by
  have he := Lib.hid (Ext.new w (.cells #[.int .u32 k] 77))
  have hb := at_new w (.cells #[.int .u32 k] 77)
  have H := Lib.hid h
  clear h
  go_enter Try.func174, Try.ntmps174
  go_upto_region 1 with fail
  generalize w.alloc (.cells #[.int .u32 k] 77) = w1 at *
  have H1 := H.out.ext he.out
  have c4 : w1.cell? ⟨gt, 4, none⟩ = some (.slice A n c) := blk_cell (i := 4) H1.at_ (Ext.refl _) rfl
  have HO := Lib.hid (Sh.ok_off H1.ok)
  have HB := Lib.hid hb
  clear H1 hb
  go_wp2_with fail
  refine (indexFunc_calls A n c objs k w.heap.size w1 HO.out hn HB.out).mono ?_
  rintro e w2 ⟨rfl, he2⟩
  have HE := Lib.hid (he.out.trans he2)
  clear he2
  go_wp2_with fail
  go_ret
  exact ⟨rfl, HE.out⟩
end Go.Proofs.Ytfhgjopoohfhjaa.Tbl
