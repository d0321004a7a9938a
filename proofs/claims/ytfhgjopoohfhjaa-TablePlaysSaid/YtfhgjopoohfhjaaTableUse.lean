/- How many slots stand on each node: the program's Use, and the document's; walked. -/
import Derived.Test.YtfhgjopoohfhjaaTableTell
namespace Go.Proofs.Ytfhgjopoohfhjaa.Tbl
open Go.RowKit Base Step Vec Shape Erase
theorem infoInt : (Try.prog.info? 3).map (fun i => (i.zero, i.size, i.bytes)) = some (some (.int .i64 0), 1, 8) := by kernel_rfl
theorem made_own (w : World) (n : Nat) (hn : n ≤ 64) : New w (w.alloc (.cells (madeCells #[.int .i64 0] n) 3)) 3 1 (some ⟨w.heap.size, 0, none⟩) n n (nums .i64 (List.replicate n 0)) := by
  have := Lex.own_lit (w := w) (T := 3) (cs := madeCells #[.int .i64 0] n) (size := 1) (n := n) (by simp [madeCells]) (by simp only [maxLen]; omega)
  rwa [made_nums] at this
theorem rows_ok {w : World} {o : Obj} (h : objS.ok w o) : ∀ r ∈ rows o, (rP r).length = rN r := fun r hr => by
  obtain ⟨i, hi, hir⟩ := List.getElem_of_mem hr
  have h1 : (Sh.sl plS).ok w (rA r, rN r, rC r, rP r) := sl_each (obj_ok h).2.2.2 (i := i) (x := r) (by rw [List.getElem?_eq_getElem hi, hir])
  exact (sl_len h1).1
theorem objs_rows {w : World} {A : Option Addr} {n c : Nat} {objs : List Obj} (h : (Sh.sl objS).ok w (A, n, c, objs)) : ∀ o ∈ objs, ∀ r ∈ rows o, (rP r).length = rN r := fun o ho => by
  obtain ⟨i, hi, hio⟩ := List.getElem_of_mem ho
  exact rows_ok (sl_each h (i := i) (by rw [List.getElem?_eq_getElem hi, hio]))
/-- One place more is counted. -/
theorem use_step {w W : World} {nd c : Nat} {A : Option Addr} {l : List plS.T} {p : plS.T} {j : Nat} (h : New w W 3 1 A nd c (nums .i64 (useOf nd l))) (hp : node p = (j : Nat)) (hj : j < nd) (hl : l.length ≤ 100000) :
    ∃ (ad : Addr) (x : Int), A = some ad ∧ W.cell? (ad.add j) = some (.int .i64 x) ∧ 0 ≤ x ∧ x ≤ 100000 ∧ nums .i64 (useOf nd (l ++ [p])) = (nums .i64 (useOf nd l)).set j (.int .i64 (x + 1)) := by
  have hlen := useOf_len nd l
  obtain ⟨x, hx⟩ : ∃ x, (useOf nd l)[j]? = some x := ⟨_, List.getElem?_eq_getElem (by omega)⟩
  obtain ⟨ad, h1, h2⟩ := own_cell h (j := j) (u := .int .i64 x) (by simp [nums, hx])
  have h3 := useOf_le nd l x (List.mem_of_getElem? hx)
  refine ⟨ad, x, h1, h2, h3.1, by omega, ?_⟩
  rw [useOf_snoc]
  unfold bump nums
  rw [List.map_set, hp, Int.toNat_natCast, List.getD_eq_getElem?_getD, hx]
  rfl
set_option maxRecDepth 100000 in
set_option maxHeartbeats 4000000 in
theorem use_calls (gt sl nd : Nat) (t : Tb) (w : World) (h : TbAt w gt sl nd t) (hf : Few nd sl t.objs) (hsl : sl ≤ 24) (hnd : nd ≤ 32) :
    Calls Try.prog 140 #[.pointer (some ⟨gt, 0, none⟩)] w fun e w' => Ext w w' ∧ ∃ A c, e = .returned (.slice A nd c) ∧ New w w' 3 1 A nd c (nums .i64 (useOf nd (t.objs.flatMap plsOf))) := by
  obtain ⟨nx, ls, A, n, c, objs⟩ := t
  have h : TblAt w gt sl nd nx ls A n c objs := h
  have hf : Few nd sl objs := hf
  have H := Lib.hid h
  have HF := Lib.hid hf
  obtain ⟨hl, hnc, _, _⟩ := sl_len h.ok
  have hn64 : n ≤ 64 := by have := hf.few; omega
  have HL := Lib.hid hl
  have HLEN : Hid (∀ i j m, (seen objs i j m).length ≤ 100000) := Lib.hid fun i j m => seen_len hf hsl (objs_rows h.ok)
  have hmk := fun W => run_make_num (P := Try.prog) 194 3 .i64 8 Try.underlying194 infoInt (by decide) nd (by omega) W
  have q0 : w.cell? ⟨gt, 1, none⟩ = some (.int .i64 nd) := blk_cell (i := 1) h.at_ (Ext.refl _) rfl
  have hlt := h.lt
  clear h hf hl
  go_enter Try.func140, Try.ntmps140
  go_upto_region 4 with fail
  have hX0 := Ext.new w (.cells (madeCells #[.int .i64 0] nd) 3)
  have hO0 := made_own w nd (by omega)
  have HX0 := Lib.hid hX0
  have HO0 : Hid (New w (w.alloc (.cells (madeCells #[.int .i64 0] nd) 3)) 3 1 (some ⟨w.heap.size, 0, none⟩) nd nd (nums .i64 (useOf nd (seen objs 0 0 0)))) := Lib.hid (by rw [seen_none]; exact hO0)
  clear hX0 hO0 hmk
  generalize w.alloc (.cells (madeCells #[.int .i64 0] nd) 3) = w1 at *
  have q4 : w1.cell? ⟨gt, 4, none⟩ = some (.slice A n c) := blk_cell (i := 4) (H.out.ext HX0.out).at_ (Ext.refl _) rfl
  go_wp2_with fail
  go_loopg [22] n (fun g i wr => ∃ k : Nat, k ≤ n ∧ g = n - k ∧ i = .int .i64 (k : Nat) ∧ Hid (Ext w wr) ∧ Hid (New w wr 3 1 (some ⟨w.heap.size, 0, none⟩) nd nd (nums .i64 (useOf nd (seen objs k 0 0)))))
  case atStart => exact ⟨0, Nat.zero_le _, rfl, rfl, HX0, HO0⟩
  case round =>
    clear HX0 HO0 q0 q4
    obtain ⟨k, hk, rfl, rfl, HX, HU⟩ := hrel
    by_cases hlt2 : k < n
    · obtain ⟨ad, o, rfl, ho, hcell, hok⟩ := obj_at (Sh.ok_off H.out.ok) hlt2
      obtain ⟨c0, c1, c2, c3, c4, c5⟩ := hcell.ext HX.out
      have HOB := Lib.hid ho
      have hom := List.mem_of_getElem? ho
      have HRR := Lib.hid (HF.out.each o hom)
      have hpl := (obj_ok hok).2.2.2
      have HPL := Lib.hid hpl
      have hpn : pN o ≤ 32 := by have := HRR.out.1; have := HRR.out.2.1; omega
      have hpc : pN o ≤ pC o := (sl_len hpl).2.1
      have hki : ((k : Nat) : Int) < ((n : Nat) : Int) := by omega
      clear hcell hok ho hom hpl
      go_upto_region 7 with (refine RowSt.wpList_put 108 _ _ rfl rfl rfl wr.heap.size #[.int .u32 (num o), .string (name o), .int .i64 (plan o).1, .int .i64 (plan o).2.1, .int .i64 (plan o).2.2.1, .slice (pA o) (pN o) (pC o)] rfl rfl 108 _ (at_new wr _) (by kernel_rfl) rfl (by simp [Value.oneCell']) ?_; intro w9 hb9 hc9)
      have hE9 : Ext wr w9 := (Ext.new wr _).chg hc9 fun i hi => by have hi : i = wr.heap.size := hi; omega
      have HX9 := Lib.hid (HX.out.trans hE9)
      have HU9 := Lib.hid (HU.out.extNew hE9)
      have x5 : w9.cell? ⟨wr.heap.size, 5, none⟩ = some (.slice (pA o) (pN o) (pC o)) := blk_cell (i := 5) hb9 (Ext.refl _) rfl
      clear hb9 hc9 hE9 c0 c1 c2 c3 c4 c5
      generalize wr.heap.size = bx at *
      go_wp2_with fail
      obtain ⟨wo, hwo⟩ : ∃ wo, wo = w9 := ⟨_, rfl⟩
      subst hwo
      clear x5
      generalize hPA : pA o = PA at HPL ⊢
      go_loopg [29] (pN o) (fun g i wi => ∃ j : Nat, j ≤ pN o ∧ g = pN o - j ∧ i = .int .i64 (j : Nat) ∧ Hid (Ext w wi) ∧ Hid (New w wi 3 1 (some ⟨w.heap.size, 0, none⟩) nd nd (nums .i64 (useOf nd (seen objs k j 0)))))
      case atStart => exact ⟨0, Nat.zero_le _, rfl, rfl, HX9, HU9⟩
      case round =>
        clear HX HU HX9 HU9
        obtain ⟨j, hj, rfl, rfl, HX, HU⟩ := hrel
        by_cases hlt3 : j < pN o
        · obtain ⟨adp, r, rfl, hr0, hrow, hrok⟩ := row_at HPL.out hlt3
          have hrc := HX.out.cell_ hrow
          have hrm := HRR.out.2.2 r (List.mem_of_getElem? hr0)
          have hrs := hrm.1
          have HPN := Lib.hid hrm.2
          have HROK := Lib.hid hrok
          have HR0 := Lib.hid hr0
          have hrcap : rN r ≤ rC r := (sl_len hrok).2.1
          have hji : ((j : Nat) : Int) < ((pN o : Nat) : Int) := by omega
          clear hrow hrok hr0 hrm
          go_wp2_with fail
          obtain ⟨w2, hw2⟩ : ∃ w2, w2 = wr := ⟨_, rfl⟩
          subst hw2
          clear hrc
          generalize hRA : rA r = RA at HROK ⊢
          go_loopg [35] (rN r) (fun g i wi => ∃ m : Nat, m ≤ rN r ∧ g = rN r - m ∧ i = .int .i64 (m : Nat) ∧ Hid (Ext w wi) ∧ Hid (New w wi 3 1 (some ⟨w.heap.size, 0, none⟩) nd nd (nums .i64 (useOf nd (seen objs k j m)))))
          case atStart => exact ⟨0, Nat.zero_le _, rfl, rfl, HX, HU⟩
          case round =>
            clear HX HU
            obtain ⟨m, hm, rfl, rfl, HX, HU⟩ := hrel
            by_cases hlt4 : m < rN r
            · obtain ⟨ap, p, rfl, hp, hp0, hp1, _, _⟩ := place_at HROK.out hlt4
              have hpn2 := HPN.out p (List.mem_of_getElem? hp)
              obtain ⟨q, hq⟩ : ∃ q : Nat, node p = q := ⟨(node p).toNat, by omega⟩
              have d0 := HX.out.cell_ hp0
              have d1 := HX.out.cell_ hp1
              have HP := Lib.hid hp
              have hmi : ((m : Nat) : Int) < ((rN r : Nat) : Int) := by omega
              rw [hq] at d0
              have HQ := Lib.hid hq
              clear hp hp0 hp1
              go_upto_region 13 with (refine RowSt.wpList_put 118 _ _ rfl rfl rfl wr.heap.size #[.int .i64 (q : Nat), .int .u32 (gen p)] rfl rfl 118 _ (at_new wr _) (by kernel_rfl) rfl (by simp [Value.oneCell']) ?_; intro w9 hb9 hc9)
              have hE9 : Ext wr w9 := (Ext.new wr _).chg hc9 fun i hi => by have hi : i = wr.heap.size := hi; omega
              have HX9 := Lib.hid (HX.out.trans hE9)
              have HU9 := Lib.hid (HU.out.extNew hE9)
              have x0 : w9.cell? ⟨wr.heap.size, 0, none⟩ = some (.int .i64 (q : Nat)) := blk_cell (i := 0) hb9 (Ext.refl _) rfl
              have hq2 : q < nd := by have := hpn2.2; rw [HQ.out] at this; omega
              obtain ⟨adu, x, hA, hcu, hx0, hx1, hset⟩ := use_step HU9.out HQ.out hq2 (HLEN.out k j m)
              cases hA
              obtain ⟨cur, _, hcur, _⟩ := own_at HU9.out
              have f0 := Pack.free_of hcur q
              have hcu : w9.cell? ⟨w.heap.size, q, none⟩ = some (.int .i64 x) := by rw [Splice.add_zero_, Nat.zero_add] at hcu; exact hcu
              have hqi : ((q : Nat) : Int) < ((nd : Nat) : Int) := by omega
              have HSET := Lib.hid hset
              clear hb9 hc9 hE9 d0 d1 hset hcur hpn2
              generalize wr.heap.size = by_ at *
              go_wp2_with fail
              have hus := own_setv HU9.out q (.int .i64 (x + 1))
              rw [Splice.add_zero_, Nat.zero_add, ← HSET.out, ← seen_place HOB.out HR0.out HP.out] at hus
              have HUS := Lib.hid hus
              have HXS := Lib.hid (HX9.out.setCell (p := ⟨w.heap.size, q, none⟩) (Nat.le_refl _) (.int .i64 (x + 1)))
              clear hus
              go_roundg (rN r - (m + 1))
              case measure => omega
              case rel => exact ⟨m + 1, by omega, rfl, by first | rfl | go_num, HXS, HUS⟩
            · obtain rfl : m = rN r := by omega
              have hs := HU.out
              rw [← seen_row HOB.out HR0.out (Nat.le_of_eq (sl_len HROK.out).1)] at hs
              have HS := Lib.hid hs
              clear hs
              go_wp2_with fail
              go_roundg (pN o - (j + 1))
              case measure => omega
              case rel => exact ⟨j + 1, by omega, rfl, by first | rfl | go_num, HX, HS⟩
        · obtain rfl : j = pN o := by omega
          have hs := HU.out
          rw [← seen_obj HOB.out (Nat.le_of_eq HRR.out.2.1)] at hs
          have HS := Lib.hid hs
          clear hs
          go_wp2_with fail
          go_roundg (n - (k + 1))
          case measure => omega
          case rel => exact ⟨k + 1, by omega, rfl, by first | rfl | go_num, HX, HS⟩
    · obtain rfl : k = n := by omega
      have hs := HU.out
      rw [seen_all (Nat.le_of_eq HL.out)] at hs
      have HS := Lib.hid hs
      clear hs
      go_wp2_with fail
      go_ret
      exact ⟨HX.out, _, _, rfl, HS.out⟩
set_option maxRecDepth 100000 in
set_option maxHeartbeats 4000000 in
theorem rUse_calls (sl nd : Nat) (t : Tb) (w : World) (h : Doc w t) (hf : Few nd sl t.objs) (hsl : sl ≤ 24) (hnd : nd ≤ 32) :
    Calls Try.prog 141 #[tabV sl nd t] w fun e w' => Ext w w' ∧ ∃ A c, e = .returned (.slice A nd c) ∧ New w w' 3 1 A nd c (nums .i64 (useOf nd (t.objs.flatMap plsOf))) := by
  obtain ⟨nx, ls, A, n, c, objs⟩ := t
  have h : (Sh.sl objS).ok w (A, n, c, objs) := h
  have hf : Few nd sl objs := hf
  have H := Lib.hid h
  have HF := Lib.hid hf
  obtain ⟨hl, hnc, _, _⟩ := sl_len h
  have hn64 : n ≤ 64 := by have := hf.few; omega
  have HL := Lib.hid hl
  have HLEN : Hid (∀ i j m, (seen objs i j m).length ≤ 100000) := Lib.hid fun i j m => seen_len hf hsl (objs_rows h)
  have hmk := fun W => run_make_num (P := Try.prog) 194 3 .i64 8 Try.underlying194 infoInt (by decide) nd (by omega) W
  have e0 := Ext.new w (.cells #[.int .i64 sl, .int .i64 nd, .int .u32 nx, .int .u32 ls, .slice A n c] 149)
  have hb := at_new w (.cells #[.int .i64 sl, .int .i64 nd, .int .u32 nx, .int .u32 ls, .slice A n c] 149)
  clear h hf hl
  go_enter Try.func141, Try.ntmps141
  go_upto_region 1 with fail
  have hsz : (w.alloc (.cells #[.int .i64 sl, .int .i64 nd, .int .u32 nx, .int .u32 ls, .slice A n c] 149)).heap.size = w.heap.size + 1 := by simp
  generalize w.alloc (.cells #[.int .i64 sl, .int .i64 nd, .int .u32 nx, .int .u32 ls, .slice A n c] 149) = w0 at *
  have q1 : w0.cell? ⟨w.heap.size, 1, none⟩ = some (.int .i64 nd) := blk_cell (i := 1) hb (Ext.refl _) rfl
  have HB := Lib.hid hb
  have HE0 := Lib.hid e0
  clear hb e0
  go_upto_region 2 with fail
  have hX0 := Ext.new w0 (.cells (madeCells #[.int .i64 0] nd) 3)
  have hO0 := made_own w0 nd (by omega)
  have HX0 := Lib.hid hX0
  have HO0 : Hid (New w0 (w0.alloc (.cells (madeCells #[.int .i64 0] nd) 3)) 3 1 (some ⟨w0.heap.size, 0, none⟩) nd nd (nums .i64 (useOf nd (seen objs 0 0 0)))) := Lib.hid (by rw [seen_none]; exact hO0)
  clear hX0 hO0 hmk q1
  generalize w0.alloc (.cells (madeCells #[.int .i64 0] nd) 3) = w1 at *
  have HO1 : Hid (New w0 w1 3 1 (some ⟨w.heap.size + 1, 0, none⟩) nd nd (nums .i64 (useOf nd (seen objs 0 0 0)))) := Lib.hid (by rw [← hsz]; exact HO0.out)
  clear HO0
  go_wp2_with fail
  go_loopg [4] n (fun g i wr => ∃ k : Nat, k ≤ n ∧ g = n - k ∧ i = .int .i64 (k : Nat) ∧ Hid (Ext w0 wr) ∧ Hid (New w0 wr 3 1 (some ⟨w.heap.size + 1, 0, none⟩) nd nd (nums .i64 (useOf nd (seen objs k 0 0)))))
  case atStart => exact ⟨0, Nat.zero_le _, rfl, rfl, HX0, HO1⟩
  case round =>
    clear HX0 HO1
    obtain ⟨k, hk, rfl, rfl, HX, HU⟩ := hrel
    by_cases hlt2 : k < n
    · obtain ⟨ad, o, rfl, ho, hcell, hok⟩ := obj_at H.out hlt2
      have HC5 := Lib.hid hcell.c5
      have HOB := Lib.hid ho
      have hom := List.mem_of_getElem? ho
      have HRR := Lib.hid (HF.out.each o hom)
      have hpl := (obj_ok hok).2.2.2
      have HPL := Lib.hid hpl
      have hpn : pN o ≤ 32 := by have := HRR.out.1; have := HRR.out.2.1; omega
      have hpc : pN o ≤ pC o := (sl_len hpl).2.1
      have hki : ((k : Nat) : Int) < ((n : Nat) : Int) := by omega
      have b4 : wr.cell? ⟨w.heap.size, 4, none⟩ = some (.slice (some ad) n c) := blk_cell (i := 4) HB.out HX.out rfl
      clear hcell hok ho hom hpl
      go_wp2_with fail
      obtain ⟨wo, hwo⟩ : ∃ wo, wo = wr := ⟨_, rfl⟩
      subst hwo
      clear b4
      generalize hPA : pA o = PA at HPL HC5 ⊢
      go_loopg [5] (pN o) (fun g i wi => ∃ j : Nat, j ≤ pN o ∧ g = pN o - j ∧ i = .int .i64 (j : Nat) ∧ Hid (Ext w0 wi) ∧ Hid (New w0 wi 3 1 (some ⟨w.heap.size + 1, 0, none⟩) nd nd (nums .i64 (useOf nd (seen objs k j 0)))))
      case atStart => exact ⟨0, Nat.zero_le _, rfl, rfl, HX, HU⟩
      case round =>
        clear HX HU
        obtain ⟨j, hj, rfl, rfl, HX, HU⟩ := hrel
        have b4 : wr.cell? ⟨w.heap.size, 4, none⟩ = some (.slice (some ad) n c) := blk_cell (i := 4) HB.out HX.out rfl
        have c5 := (HE0.out.trans HX.out).cell_ HC5.out
        by_cases hlt3 : j < pN o
        · obtain ⟨adp, r, rfl, hr0, hrow, hrok⟩ := row_at HPL.out hlt3
          have hrm := HRR.out.2.2 r (List.mem_of_getElem? hr0)
          have hrs := hrm.1
          have HPN := Lib.hid hrm.2
          have HROK := Lib.hid hrok
          have HR0 := Lib.hid hr0
          have HROW := Lib.hid hrow
          have hrcap : rN r ≤ rC r := (sl_len hrok).2.1
          have hji : ((j : Nat) : Int) < ((pN o : Nat) : Int) := by omega
          clear hrow hrok hr0 hrm
          go_wp2_with fail
          obtain ⟨w2, hw2⟩ : ∃ w2, w2 = wr := ⟨_, rfl⟩
          subst hw2
          clear b4 c5
          generalize hRA : rA r = RA at HROK HROW ⊢
          go_loopg [6] (rN r) (fun g i wi => ∃ m : Nat, m ≤ rN r ∧ g = rN r - m ∧ i = .int .i64 (m : Nat) ∧ Hid (Ext w0 wi) ∧ Hid (New w0 wi 3 1 (some ⟨w.heap.size + 1, 0, none⟩) nd nd (nums .i64 (useOf nd (seen objs k j m)))))
          case atStart => exact ⟨0, Nat.zero_le _, rfl, rfl, HX, HU⟩
          case round =>
            clear HX HU
            obtain ⟨m, hm, rfl, rfl, HX, HU⟩ := hrel
            have b4 : wr.cell? ⟨w.heap.size, 4, none⟩ = some (.slice (some ad) n c) := blk_cell (i := 4) HB.out HX.out rfl
            have c5 := (HE0.out.trans HX.out).cell_ HC5.out
            have hrc := (HE0.out.trans HX.out).cell_ HROW.out
            by_cases hlt4 : m < rN r
            · obtain ⟨ap, p, rfl, hp, hp0, hp1, _, _⟩ := place_at HROK.out hlt4
              have hpn2 := HPN.out p (List.mem_of_getElem? hp)
              obtain ⟨q, hq⟩ : ∃ q : Nat, node p = q := ⟨(node p).toNat, by omega⟩
              have d0 := (HE0.out.trans HX.out).cell_ hp0
              have HP := Lib.hid hp
              have hmi : ((m : Nat) : Int) < ((rN r : Nat) : Int) := by omega
              rw [hq] at d0
              have HQ := Lib.hid hq
              have hq2 : q < nd := by have := hpn2.2; rw [hq] at this; omega
              obtain ⟨adu, x, hA, hcu, hx0, hx1, hset⟩ := use_step HU.out HQ.out hq2 (HLEN.out k j m)
              cases hA
              obtain ⟨cur, _, hcur, _⟩ := own_at HU.out
              have f0 := Pack.free_of hcur q
              have hcu : wr.cell? ⟨w.heap.size + 1, q, none⟩ = some (.int .i64 x) := by rw [Splice.add_zero_, Nat.zero_add] at hcu; exact hcu
              have hqi : ((q : Nat) : Int) < ((nd : Nat) : Int) := by omega
              have HSET := Lib.hid hset
              clear hp hp0 hp1 hset hcur hpn2
              go_wp2_with fail
              have hus := own_setv HU.out q (.int .i64 (x + 1))
              rw [Splice.add_zero_, Nat.zero_add, ← HSET.out, ← seen_place HOB.out HR0.out HP.out] at hus
              have HUS := Lib.hid hus
              have HXS := Lib.hid (HX.out.setCell (p := ⟨w.heap.size + 1, q, none⟩) (by show w0.heap.size ≤ w.heap.size + 1; omega) (.int .i64 (x + 1)))
              clear hus
              go_roundg (rN r - (m + 1))
              case measure => omega
              case rel => exact ⟨m + 1, by omega, rfl, by first | rfl | go_num, HXS, HUS⟩
            · obtain rfl : m = rN r := by omega
              have hs := HU.out
              rw [← seen_row HOB.out HR0.out (Nat.le_of_eq (sl_len HROK.out).1)] at hs
              have HS := Lib.hid hs
              clear hs
              go_wp2_with fail
              go_roundg (pN o - (j + 1))
              case measure => omega
              case rel => exact ⟨j + 1, by omega, rfl, by first | rfl | go_num, HX, HS⟩
        · obtain rfl : j = pN o := by omega
          have hs := HU.out
          rw [← seen_obj HOB.out (Nat.le_of_eq HRR.out.2.1)] at hs
          have HS := Lib.hid hs
          clear hs
          go_wp2_with fail
          go_roundg (n - (k + 1))
          case measure => omega
          case rel => exact ⟨k + 1, by omega, rfl, by first | rfl | go_num, HX, HS⟩
    · obtain rfl : k = n := by omega
      have hs := HU.out
      rw [seen_all (Nat.le_of_eq HL.out)] at hs
      have HS := Lib.hid hs
      have b4 : wr.cell? ⟨w.heap.size, 4, none⟩ = some (.slice A k c) := blk_cell (i := 4) HB.out HX.out rfl
      clear hs
      go_wp2_with fail
      go_ret
      exact ⟨HE0.out.trans HX.out, _, _, rfl, HS.out.mono fun i _ (hi : w0.heap.size ≤ i) => by show w.heap.size ≤ i; omega⟩
end Go.Proofs.Ytfhgjopoohfhjaa.Tbl
