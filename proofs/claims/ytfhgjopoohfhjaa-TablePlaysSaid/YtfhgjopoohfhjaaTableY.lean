/- The document's tables: a slot's shard is let be elsewhere; walked. -/
import Derived.Test.YtfhgjopoohfhjaaTableX
namespace Go.Proofs.Ytfhgjopoohfhjaa.Tbl
open Go.RowKit Base Step Vec Shape Erase
theorem cellsL_set5 {A : Option Addr} {n c : Nat} {l : List Row} : ∀ {objs : List Obj} {k : Nat} {ob : Obj}, objs[k]? = some ob → (cellsL objS objs).set (k * 6 + 5) (.slice A n c) = cellsL objS (objs.set k (mkObj ob A n c l))
  | [], k, ob, h => by simp at h
  | x :: objs, 0, ob, h => by
    have h : x = ob := by simpa using h
    subst h
    rfl
  | x :: objs, k + 1, ob, h => by
    have h : objs[k]? = some ob := by simpa using h
    rw [show (k + 1) * 6 + 5 = k * 6 + 5 + 6 by omega]
    show (objC x ++ cellsL objS objs).set (k * 6 + 5 + 6) (.slice A n c) = objC x ++ cellsL objS (objs.set k (mkObj ob A n c l))
    rw [← cellsL_set5 h]
    rfl
theorem rowsL_set {r' : Row} : ∀ {l : List Row} {j : Nat}, (cellsL rowS l).set j (.slice (rA r') (rN r') (rC r')) = cellsL rowS (l.set j r')
  | [], j => by simp [cellsL]
  | x :: l, 0 => rfl
  | x :: l, j + 1 => by
    show (.slice (rA x) (rN x) (rC x) :: cellsL rowS l).set (j + 1) (.slice (rA r') (rN r') (rC r')) = .slice (rA x) (rN x) (rC x) :: cellsL rowS (l.set j r')
    rw [List.set_cons_succ, rowsL_set]
/-- A variable that has been laid. -/
def ptrL (w0 : World) (T : TypeId) (cs : Array Value) : Lex.Loose := ⟨fun v => ∃ g, v = .pointer (some ⟨g, 0, none⟩), fun v W => ∀ g, v = .pointer (some ⟨g, 0, none⟩) → W.heap[g]? = some (.cells cs T (0, 0)) ∧ w0.heap.size ≤ g⟩
theorem ptrL_st {w0 : World} {T : TypeId} {cs : Array Value} : (ptrL w0 T cs).St Ext := fun _ _ _ h he g e => ⟨he.at_ (h g e).1, (h g e).2⟩
theorem infoRPlace : (Try.prog.info? 114).map (fun i => (i.zero, i.size, i.bytes)) = some (some (.agg #[.int .i64 0, .int .u32 0]), 2, 16) := by kernel_rfl
theorem infoRRow : (Try.prog.info? 212).map (fun i => (i.zero, i.size, i.bytes)) = some (some (.slice none 0 0), 1, 24) := by kernel_rfl
set_option maxRecDepth 100000 in
set_option maxHeartbeats 8000000 in
theorem rMove_calls (sl nd : Nat) (t : Tb) (o : Op) (w0 w : World) (hw0 : Sub w0 w) (h0 : Doc w0 t) (hn : t.n ≤ 1099511627776) (hs : ∀ ob ∈ t.objs, Small ob) (hr : ∀ ob ∈ t.objs, ∀ r ∈ rows ob, rN r = sl) (ho0 : OpAt w0 o) :
    Calls Try.prog 138 #[tabV sl nd t, opV o] w (RDid w0 w sl nd (moveC sl nd t o) fun t' => MoveR sl nd t o (moveC sl nd t o) t') := by
  obtain ⟨nx, ls, A, n, c, objs⟩ := t
  obtain ⟨Q, hQ⟩ : ∃ Q, Q = RDid w0 w sl nd (moveC sl nd ⟨nx, ls, A, n, c, objs⟩ o) fun t' => MoveR sl nd ⟨nx, ls, A, n, c, objs⟩ o (moveC sl nd ⟨nx, ls, A, n, c, objs⟩ o) t' := ⟨_, rfl⟩
  have HQ := Lib.hid hQ
  rw [← hQ]
  clear hQ
  have hn : n ≤ 1099511627776 := hn
  have h0 : (Sh.sl objS).ok w0 (A, n, c, objs) := h0
  have h := Sh.ok_le hw0 _ _ h0
  have ho := ho0.sub hw0
  have H0 := Lib.hid h0
  have H := Lib.hid h
  have HO := Lib.hid ho
  have HS : Hid (∀ ob ∈ objs, Small ob) := Lib.hid hs
  have HR : Hid (∀ ob ∈ objs, ∀ r ∈ rows ob, rN r = sl) := Lib.hid hr
  have e0 := Lib.hid (((Ext.new w (.cells #[.int .i64 sl, .int .i64 nd, .int .u32 nx, .int .u32 ls, .slice A n c] 149)).alloc (.cells (opC o) 116)).alloc (.cells tab0 149))
  have hbt := ((Ext.new (w.alloc (.cells #[.int .i64 sl, .int .i64 nd, .int .u32 nx, .int .u32 ls, .slice A n c] 149)) (.cells (opC o) 116)).alloc (.cells tab0 149)).at_ (at_new w (.cells #[.int .i64 sl, .int .i64 nd, .int .u32 nx, .int .u32 ls, .slice A n c] 149))
  have hbo := (Ext.new ((w.alloc (.cells #[.int .i64 sl, .int .i64 nd, .int .u32 nx, .int .u32 ls, .slice A n c] 149)).alloc (.cells (opC o) 116)) (.cells tab0 149)).at_ (at_new (w.alloc (.cells #[.int .i64 sl, .int .i64 nd, .int .u32 nx, .int .u32 ls, .slice A n c] 149)) (.cells (opC o) 116))
  have hbz := at_new ((w.alloc (.cells #[.int .i64 sl, .int .i64 nd, .int .u32 nx, .int .u32 ls, .slice A n c] 149)).alloc (.cells (opC o) 116)) (.cells tab0 149)
  have hsz : (w.alloc (.cells #[.int .i64 sl, .int .i64 nd, .int .u32 nx, .int .u32 ls, .slice A n c] 149)).heap.size = w.heap.size + 1 := by simp
  have hsz2 : ((w.alloc (.cells #[.int .i64 sl, .int .i64 nd, .int .u32 nx, .int .u32 ls, .slice A n c] 149)).alloc (.cells (opC o) 116)).heap.size = w.heap.size + 2 := by simp
  rw [hsz] at hbo
  rw [hsz2] at hbz
  clear h ho h0 ho0 hs hr hsz hsz2
  have hno : ∀ (code : Int) (W : World), code ≠ 0 → moveC sl nd ⟨nx, ls, A, n, c, objs⟩ o = code → Ext w W → Q (.returned (.tuple #[tabV sl nd ⟨nx, ls, A, n, c, objs⟩, .int .i64 code])) W := fun code W h0 hc he => by
    rw [HQ.out, hc]
    exact ⟨_, rfl, he, fun W hW _ => Sh.ok_le hW _ _ H0.out, fun _ => rfl, fun k => absurd k h0⟩
  have HNO := Lib.hid hno
  clear hno
  go_enter Try.func138, Try.ntmps138
  go_upto_region 1 with fail
  generalize ((w.alloc (.cells #[.int .i64 sl, .int .i64 nd, .int .u32 nx, .int .u32 ls, .slice A n c] 149)).alloc (.cells (opC o) 116)).alloc (.cells tab0 149) = w1 at *
  have HBT := Lib.hid hbt
  have HBO := Lib.hid hbo
  have HBZ := Lib.hid hbz
  have b1 : w1.cell? ⟨w.heap.size + 1, 1, none⟩ = some (.int .u32 o.num) := blk_cell (i := 1) hbo (Ext.refl _) rfl
  have t0 := blk_cell (i := 0) hbt (Ext.refl _) rfl; have tf0 := Pack.free_of hbt 0; have t1 := blk_cell (i := 1) hbt (Ext.refl _) rfl; have tf1 := Pack.free_of hbt 1; have t2 := blk_cell (i := 2) hbt (Ext.refl _) rfl; have tf2 := Pack.free_of hbt 2; have t3 := blk_cell (i := 3) hbt (Ext.refl _) rfl; have tf3 := Pack.free_of hbt 3; have t4 := blk_cell (i := 4) hbt (Ext.refl _) rfl; have tf4 := Pack.free_of hbt 4
  clear hbt hbo hbz
  go_wp2_with fail
  refine (rNumbered_calls sl nd ⟨nx, ls, A, n, c, objs⟩ o.num w1 (Sh.ok_ext e0.out _ _ H.out) hn).mono ?_
  rintro e w2 ⟨rfl, he2⟩
  have HE2 := Lib.hid he2
  have hb2 := he2.at_ HBO.out
  have ht2 := he2.at_ HBT.out
  have hz2 := he2.at_ HBZ.out
  clear he2 b1 t0 t1 t2 t3 t4 tf0 tf1 tf2 tf3 tf4
  have b7 : w2.cell? ⟨w.heap.size + 1, 7, none⟩ = some (.int .i64 o.stripe) := blk_cell (i := 7) hb2 (Ext.refl _) rfl
  have b8 : w2.cell? ⟨w.heap.size + 1, 8, none⟩ = some (.int .i64 o.slot) := blk_cell (i := 8) hb2 (Ext.refl _) rfl
  have t0 : w2.cell? ⟨w.heap.size, 0, none⟩ = some (.int .i64 sl) := blk_cell (i := 0) ht2 (Ext.refl _) rfl
  have t4 : w2.cell? ⟨w.heap.size, 4, none⟩ = some (.slice A n c) := blk_cell (i := 4) ht2 (Ext.refl _) rfl
  have HB2 := Lib.hid hb2
  have HT2 := Lib.hid ht2
  have HZ2 := Lib.hid hz2
  clear hb2 ht2 hz2
  -- a way out at 6
  have hout : ∀ (nq : Nat), ∃ wq, wq = w2.drewN nq := fun nq => ⟨_, rfl⟩
  clear hout
  go_upto_region 2 with fail
  rcases numFrom_spec o.num objs 0 with ⟨hk0, _⟩ | ⟨k, ob, hk0, hob, hobn⟩
  · have hk0 : numAt objs o.num = -1 := hk0
    have HC : Hid (moveC sl nd ⟨nx, ls, A, n, c, objs⟩ o = 6) := Lib.hid (by
      unfold moveC
      rw [if_pos]
      exact .inl (by show numAt objs o.num < 0; omega))
    rw [hk0]
    have hd1 : decide ((-1 : Int) < 0) = true := rfl
    clear hk0
    go_quiet (fail)
    have HEN := Lib.hid ((e0.out.trans HE2.out).drewN nq)
    have hzn := (Ext.drewN (Ext.refl w2) nq).at_ HZ2.out
    have htn := (Ext.drewN (Ext.refl w2) nq).at_ HT2.out
    clear b7 b8 t0 t4
    generalize w2.drewN nq = wn at *
    have t0 := blk_cell (i := 0) htn (Ext.refl _) rfl; have tf0 := Pack.free_of htn 0; have t1 := blk_cell (i := 1) htn (Ext.refl _) rfl; have tf1 := Pack.free_of htn 1; have t2 := blk_cell (i := 2) htn (Ext.refl _) rfl; have tf2 := Pack.free_of htn 2; have t3 := blk_cell (i := 3) htn (Ext.refl _) rfl; have tf3 := Pack.free_of htn 3; have t4 := blk_cell (i := 4) htn (Ext.refl _) rfl; have tf4 := Pack.free_of htn 4
    go_wp2_with (refine RowSt.wpList_put 149 _ _ rfl rfl rfl (w.heap.size + 2) (tabC sl nd ⟨nx, ls, _, n, c, objs⟩) rfl rfl 149 _ hzn (by kernel_rfl) rfl (by simp [Value.oneCell']) ?_; intro w8 hb8 hc8)
    refine bodyPost_ret (v := .tuple #[tabV sl nd ⟨nx, ls, _, n, c, objs⟩, .int .i64 6]) (RowSt.results_cell_tmp (p := 4) (q := 5) rfl _ _ (w.heap.size + 2) 149 _ (0, 0) _ rfl hb8 Try.underlying149 rfl (by kernel_rfl)) rfl ?_
    exact HNO.out _ _ (by decide) HC.out (HEN.out.chg hc8 fun i hi => by have hi : i = w.heap.size + 2 := hi; omega)
  · have hk0 : numAt objs o.num = (k : Nat) := by rw [← Nat.zero_add k]; exact hk0
    have hln := (sl_len H.out).1
    have hkn : k < n := by have := (List.getElem?_eq_some_iff.1 hob).1; omega
    obtain ⟨ad, ob', hA, hob', hat, hobk⟩ := obj_at H.out hkn
    subst hA
    rw [hob] at hob'
    cases hob'
    have hnc : n ≤ c := (sl_len H.out).2.1
    have hat2 := hat.ext (e0.out.trans HE2.out)
    have HAT := Lib.hid hat2
    obtain ⟨c0, c1, c2, c3, c4, c5⟩ := hat2
    have HK := Lib.hid hk0
    have HOB := Lib.hid hob
    have HOBK := Lib.hid hobk
    have hidx : objs[(numAt objs o.num).toNat]? = some ob := by rw [hk0]; exact hob
    have HIDX := Lib.hid hidx
    rw [hk0]
    clear hat hob hobk hobn hidx hk0 c0 c1 c2 c3 c4
    have hpm : pN ob ≤ 1099511627776 := (HS.out ob (List.mem_of_getElem? HOB.out)).1
    have hd1 : decide (((k : Nat) : Int) < 0) = false := by simp
    by_cases hbad : o.stripe < 0 ∨ (pN ob : Int) ≤ o.stripe ∨ o.slot < 0 ∨ (sl : Int) ≤ o.slot
    · have HC : Hid (moveC sl nd ⟨nx, ls, some ad, n, c, objs⟩ o = 6) := Lib.hid (by
        unfold moveC
        rw [if_pos]
        rcases hbad with h | h | h | h
        · exact .inr (.inl h)
        · refine .inr (.inr (.inl fun ob2 h2 => ?_))
          have h2 : objs[(numAt objs o.num).toNat]? = some ob2 := h2
          rw [HIDX.out] at h2
          cases h2
          exact h
        · exact .inr (.inr (.inr (.inl h)))
        · exact .inr (.inr (.inr (.inr h))))
      have hor : (decide (o.stripe < 0) = true) ∨ (decide (o.stripe < 0) = false ∧ decide ((pN ob : Int) ≤ o.stripe) = true) ∨ (decide (o.stripe < 0) = false ∧ decide ((pN ob : Int) ≤ o.stripe) = false ∧ decide (o.slot < 0) = true) ∨ (decide (o.stripe < 0) = false ∧ decide ((pN ob : Int) ≤ o.stripe) = false ∧ decide (o.slot < 0) = false ∧ decide ((sl : Int) ≤ o.slot) = true) := by
        simp only [decide_eq_true_eq, decide_eq_false_iff_not]
        omega
      clear hbad
      rcases hor with hd2 | ⟨hd2, hd3⟩ | ⟨hd2, hd3, hd4⟩ | ⟨hd2, hd3, hd4, hd5⟩
      all_goals
        go_quiet (fail)
        have HEN := Lib.hid ((e0.out.trans HE2.out).drewN nq)
        have hzn := (Ext.drewN (Ext.refl w2) nq).at_ HZ2.out
        have htn := (Ext.drewN (Ext.refl w2) nq).at_ HT2.out
        clear b7 b8 t0 t4 c5
        generalize w2.drewN nq = wn at *
        have t0 := blk_cell (i := 0) htn (Ext.refl _) rfl; have tf0 := Pack.free_of htn 0; have t1 := blk_cell (i := 1) htn (Ext.refl _) rfl; have tf1 := Pack.free_of htn 1; have t2 := blk_cell (i := 2) htn (Ext.refl _) rfl; have tf2 := Pack.free_of htn 2; have t3 := blk_cell (i := 3) htn (Ext.refl _) rfl; have tf3 := Pack.free_of htn 3; have t4 := blk_cell (i := 4) htn (Ext.refl _) rfl; have tf4 := Pack.free_of htn 4
        go_wp2_with (refine RowSt.wpList_put 149 _ _ rfl rfl rfl (w.heap.size + 2) (tabC sl nd ⟨nx, ls, _, n, c, objs⟩) rfl rfl 149 _ hzn (by kernel_rfl) rfl (by simp [Value.oneCell']) ?_; intro w8 hb8 hc8)
        refine bodyPost_ret (v := .tuple #[tabV sl nd ⟨nx, ls, _, n, c, objs⟩, .int .i64 6]) (RowSt.results_cell_tmp (p := 4) (q := 5) rfl _ _ (w.heap.size + 2) 149 _ (0, 0) _ rfl hb8 Try.underlying149 rfl (by kernel_rfl)) rfl ?_
        exact HNO.out _ _ (by decide) HC.out (HEN.out.chg hc8 fun i hi => by have hi : i = w.heap.size + 2 := hi; omega)
    · have hd2 : decide (o.stripe < 0) = false := by simp; omega
      have hd3 : decide ((pN ob : Int) ≤ o.stripe) = false := by simp; omega
      have hd4 : decide (o.slot < 0) = false := by simp; omega
      have hd5 : decide ((sl : Int) ≤ o.slot) = false := by simp; omega
      have HGOOD := Lib.hid hbad
      clear hbad
      go_quiet (fail)
      have hx3 := Ext.drewN (Ext.refl w2) nq
      have HE3 := Lib.hid ((e0.out.trans HE2.out).drewN nq)
      have HB3 := Lib.hid (hx3.at_ HB2.out)
      have HT3 := Lib.hid (hx3.at_ HT2.out)
      have HZ3 := Lib.hid (hx3.at_ HZ2.out)
      have HAT3 := Lib.hid (HAT.out.ext hx3)
      clear hd1 hd2 hd3 hd4 hd5 b7 b8 t0 t4 c5 HAT HB2 HT2 HZ2 hx3
      generalize w2.drewN nq = w3 at *
      obtain ⟨j, hj⟩ : ∃ j : Nat, o.stripe = j := ⟨o.stripe.toNat, by have := HGOOD.out; omega⟩
      obtain ⟨q, hq⟩ : ∃ q : Nat, o.slot = q := ⟨o.slot.toNat, by have := HGOOD.out; omega⟩
      have hjp : j < pN ob := by have := HGOOD.out; omega
      have hqs : q < sl := by have := HGOOD.out; omega
      have HJ := Lib.hid hj
      have HQQ := Lib.hid hq
      clear hj hq
      -- the row, and its place
      have hrl := (obj_ok HOBK.out).2.2.2
      have hrl2 : (rows ob).length = pN ob := (sl_len hrl).1
      obtain ⟨adp, r, hpA, hr0, hcell, hrok⟩ := row_at hrl hjp
      have hrsl : rN r = sl := HR.out ob (List.mem_of_getElem? HOB.out) r (List.mem_of_getElem? hr0)
      obtain ⟨a2, p, hrA, hp, hp0, hp1, _, _⟩ := place_at hrok (i := q) (by omega)
      have hb3 := HB3.out
      unfold opC at hb3
      rw [HJ.out, HQQ.out] at hb3
      have HB3' := Lib.hid hb3
      clear hb3
      have HCELL := Lib.hid hcell
      have HP0 := Lib.hid hp0
      have HP1 := Lib.hid hp1
      have HROK := Lib.hid hrok
      have HR0 := Lib.hid hr0
      have HP := Lib.hid hp
      have HPA := Lib.hid hpA
      have HRA := Lib.hid hrA
      have HRSL := Lib.hid hrsl
      have HRL := Lib.hid hrl
      have HRL2 := Lib.hid hrl2
      have hc5 := HAT3.out.c5
      rw [hpA] at hc5
      have HC5 := Lib.hid hc5
      clear hcell hp0 hp1 hrok hr0 hp hpA hrl hrl2 hc5
      rw [hrA, hrsl] at HCELL
      clear hrA hrsl
      have hki : ((k : Nat) : Int) < ((n : Nat) : Int) := by omega
      have hji : ((j : Nat) : Int) < ((pN ob : Nat) : Int) := by omega
      have hqi : ((q : Nat) : Int) < ((sl : Nat) : Int) := by omega
      go_upto_region 4 with fail
      have y4 : ∀ W, Ext w3.drew W → W.cell? ⟨w.heap.size, 4, none⟩ = some (.slice (some ad) n c) := fun W hW => blk_cell (i := 4) HT3.out (drew_ext hW) rfl
      have y5 : ∀ W, Ext w3.drew W → W.cell? ⟨(ad.add (k * 6)).block, (ad.add (k * 6)).off + 5, none⟩ = some (.slice (some adp) (pN ob) (pC ob)) := fun W hW => (drew_ext hW).cell_ HC5.out
      have y6 : ∀ W, Ext w3.drew W → W.cell? (adp.add j) = some (.slice (some a2) sl (rC r)) := fun W hW => (HE3.out.trans (drew_ext hW)).cell_ HCELL.out
      have z7 : ∀ W, Ext w3.drew W → W.cell? ⟨w.heap.size + 1, 7, none⟩ = some (.int .i64 (j : Nat)) := fun W hW => blk_cell (i := 7) HB3'.out (drew_ext hW) rfl
      have z8 : ∀ W, Ext w3.drew W → W.cell? ⟨w.heap.size + 1, 8, none⟩ = some (.int .i64 (q : Nat)) := fun W hW => blk_cell (i := 8) HB3'.out (drew_ext hW) rfl
      have z9 : ∀ W, Ext w3.drew W → W.cell? (a2.add (q * 2)) = some (.int .i64 (node p)) := fun W hW => (HE3.out.trans (drew_ext hW)).cell_ HP0.out
      have z10 : ∀ W, Ext w3.drew W → W.cell? ⟨(a2.add (q * 2)).block, (a2.add (q * 2)).off + 1, none⟩ = some (.int .u32 (gen p)) := fun W hW => (HE3.out.trans (drew_ext hW)).cell_ HP1.out
      refine Lex.wp_region_u [0, 1, 2, 3, 4, 5, 6, 7, 8, 9, 10, 11, 12, 13, 14] [15] [] (by kernel_rfl) (by kernel_rfl) (by repeat (first | exact Lex.st_nil | refine Lex.st_cons (by first | exact Lex.nums_st | exact Lex.const_st | exact Lex.such_st | exact Lex.row_st | exact Lex.rowE_st | exact Lex.litR_st | assumption) ?_)) ?_; simp only [Lex.pick, List.getElem?_cons_succ, List.getElem?_cons_zero, List.map_cons, List.map_nil]
      repeat (first | (refine Lex.lexU_skip (by rfl) ?_; simp only [Act.put, List.setIfInBounds_toArray, List.set_cons_zero, List.set_cons_succ]) | (refine Lex.lexU_still (by rfl) (by rfl) (by first | exact Base.Ext.refl | exact Lex.Fill.refl) ?_; apply Exists.intro; refine ⟨fun W hW => ?_, ?_⟩; (have hE := Lex.ext_of_cls hW.1; have hE2 := Lex.ext_drew hE; clear hW; go_simp; try with_reducible rfl); simp only [Act.put, List.setIfInBounds_toArray, List.set_cons_zero, List.set_cons_succ]))
      refine Lex.lexU_such (by rfl) (by rfl) (ptrL w3.drew 114 #[.int .i64 0, .int .u32 0]) (ptrL_st) (fun W hW => ?_) ?_
      · have hE := hW.1
        clear hW
        go_simp
        exact ⟨⟨_, rfl⟩, Ext.new _ _, fun g e => by cases e; exact ⟨at_new _ _, hE.size⟩⟩
      rintro v ⟨wp, rfl⟩
      simp only [Act.put, List.setIfInBounds_toArray, List.set_cons_zero, List.set_cons_succ]
      repeat (first | (refine Lex.lexU_skip (by rfl) ?_; simp only [Act.put, List.setIfInBounds_toArray, List.set_cons_zero, List.set_cons_succ]) | (refine Lex.lexU_still (by rfl) (by rfl) (by first | exact Base.Ext.refl | exact Lex.Fill.refl) ?_; apply Exists.intro; refine ⟨fun W hW => ?_, ?_⟩; (have hE := Lex.ext_of_cls hW.1; have hE2 := Lex.ext_drew hE; clear hW; go_simp; try with_reducible rfl); simp only [Act.put, List.setIfInBounds_toArray, List.set_cons_zero, List.set_cons_succ]))
      refine Lex.lexU_nil (fun W hW => ?_)
      have hEW := Lex.ext_drew hW.1
      obtain ⟨hwp, hwp2⟩ := (hW.2 14).2 rfl _ rfl
      have hwp2 : w3.heap.size ≤ wp := hwp2
      clear hW y4 y5 y6 z7 z8 z9 z10
      have HEW := Lib.hid hEW
      clear hEW
      go_wp2_with (refine RowSt.wpList_put 114 _ _ rfl rfl rfl wp #[.int .i64 (node p), .int .u32 (gen p)] rfl rfl 114 _ hwp (by kernel_rfl) rfl (by simp [Value.oneCell']) ?_; intro w4 hb4 hc4)
      try simp only [Lex.onlyN]
      have hlt3 : w.heap.size + 2 < w3.heap.size := Pack.lt_of_at HZ3.out
      have hC34 : Chg (fun i => i = wp) w3 w4 := ext_chg HEW.out hc4
      have HE4 := Lib.hid (HE3.out.chg hC34 fun i hi => by have hi : i = wp := hi; omega)
      have HE34 := Lib.hid ((Ext.refl w3).chg hC34 fun i hi => by have hi : i = wp := hi; omega)
      have HW4 := Lib.hid hb4
      have HT4 := Lib.hid (HE34.out.at_ HT3.out)
      have HB4 := Lib.hid (HE34.out.at_ HB3'.out)
      have HZ4 := Lib.hid (HE34.out.at_ HZ3.out)
      have HC4 := Lib.hid (HE34.out.cell_ HC5.out)
      have hwplt : wp < w4.heap.size := Pack.lt_of_at hb4
      clear hb4 hc4 hC34 hwp
      go_upto_region 5 with fail
      have y4 : ∀ W, Ext w4.drew W → W.cell? ⟨w.heap.size, 4, none⟩ = some (.slice (some ad) n c) := fun W hW => blk_cell (i := 4) HT4.out (drew_ext hW) rfl
      have y5 : ∀ W, Ext w4.drew W → W.cell? ⟨(ad.add (k * 6)).block, (ad.add (k * 6)).off + 5, none⟩ = some (.slice (some adp) (pN ob) (pC ob)) := fun W hW => (drew_ext hW).cell_ HC4.out
      have y6 : ∀ W, Ext w4.drew W → W.cell? (adp.add j) = some (.slice (some a2) sl (rC r)) := fun W hW => (HE4.out.trans (drew_ext hW)).cell_ HCELL.out
      have z7 : ∀ W, Ext w4.drew W → W.cell? ⟨w.heap.size + 1, 7, none⟩ = some (.int .i64 (j : Nat)) := fun W hW => blk_cell (i := 7) HB4.out (drew_ext hW) rfl
      have hsl40 : sl ≤ 8796093021952 := by
        have := (HS.out ob (List.mem_of_getElem? HOB.out)).2 r (List.mem_of_getElem? HR0.out)
        rw [HRSL.out] at this
        exact this
      have HPL : Hid ((cellsL plS (rP r)).length = sl * 2) := Lib.hid (by rw [cellsL_length, (sl_len HROK.out).1, HRSL.out]; rfl)
      have HRPL : Hid ((rP r).length = sl) := Lib.hid (by rw [(sl_len HROK.out).1, HRSL.out])
      have HD4 := Lib.hid (HE4.out.trans (Ext.drew (Ext.refl _)))
      refine Lex.wp_region_r [0, 1, 2, 3, 4, 5, 6, 7, 8, 9, 10, 11, 12] [] [(11, 0)] [(0, Lex.rowR w4.drew 114 2 0 []), (11, Lex.rowR w4.drew 114 2 sl (cellsL plS (rP r)))] (by kernel_rfl) (by kernel_rfl) (by kernel_rfl) (by repeat (first | exact Lex.ok_nilR | refine Lex.ok_consR (by first | exact Lex.rowR_ok | exact Tbl.rdR_ok | assumption) ?_)) ?_; simp only [Lex.pick, List.getElem?_cons_succ, List.getElem?_cons_zero, List.map_cons, List.map_nil]
      refine Lex.lexR_loose (by rfl) (by rfl) (fun W hW hAP => ?_) ?_
      · have hE := hW.1
        clear hW
        go_simp
        exact Lex.rowR_new hE.size (Ext.new _ _) (own_empty (at_new _ _) (Nat.le_refl _))
      rintro v fx ⟨A0, c0, rfl⟩
      simp only [Act.put, List.setIfInBounds_toArray, List.set_cons_zero, List.set_cons_succ]
      repeat (first | (refine Lex.lexR_skip (by rfl) ?_; simp only [Act.put, List.setIfInBounds_toArray, List.set_cons_zero, List.set_cons_succ]) | (refine Lex.lexR_still (by rfl) (by rfl) ?_; apply Exists.intro; refine ⟨fun W hW => ?_, ?_⟩; (have hE := hW; have hE2 := Lex.ext_drew hE; clear hW; go_simp; try with_reducible rfl); simp only [Act.put, List.setIfInBounds_toArray, List.set_cons_zero, List.set_cons_succ]))
      refine Lex.lexR_loose (by rfl) (by rfl) (fun W hW hAP => ?_) ?_
      · obtain ⟨hown, hfo⟩ := ((hW.2 0 (by kernel_rfl) rfl).2 rfl) _ _ rfl
        have hE := hW.1
        clear hW
        refine Lex.app_looseR (.tmp 59) (.tmp 69) _ rfl 114 _ 2 16 Try.underlying212 infoRPlace rfl (by decide) (by decide) rfl hown (fun i hi => ⟨0, by simp, .inr ⟨rfl, hfo i hi⟩⟩) rfl HPL.out (fun h => by cases h) (fun ad' ha j' u hu => (HD4.out.trans hE).cell_ (ok_cells HROK.out (by decide) ad' (by rw [HRA.out]; exact ha) j' u hu)) (cellsL_one_ _ _) (by omega) hE.size (Nat.zero_add _) rfl
      rintro v fx ⟨A8, c8, rfl⟩
      simp only [Act.put, List.setIfInBounds_toArray, List.set_cons_zero, List.set_cons_succ]
      repeat (first | (refine Lex.lexR_skip (by rfl) ?_; simp only [Act.put, List.setIfInBounds_toArray, List.set_cons_zero, List.set_cons_succ]) | (refine Lex.lexR_still (by rfl) (by rfl) ?_; apply Exists.intro; refine ⟨fun W hW => ?_, ?_⟩; (have hE := hW; have hE2 := Lex.ext_drew hE; clear hW; go_simp; try with_reducible rfl); simp only [Act.put, List.setIfInBounds_toArray, List.set_cons_zero, List.set_cons_succ]))
      refine Lex.lexR_nil (fun W hW hF => ?_)
      have HOWN := Lib.hid (((hF 11 rfl).2 rfl) _ _ rfl).1
      have HEW2 := Lib.hid (Lex.ext_drew hW)
      clear hW hF y4 y5 y6 z7
      refine Lex.onlyN_intro ?_
      rcases A8 with _ | a8
      · have := (Splice.own_none HOWN.out).1
        omega
      obtain ⟨g8, cur8, rfl, hg8, hnc8, hcm8, hcs8, hcx8, hS8, hl8⟩ := Splice.blk_own HOWN.out
      have hS8 : w4.heap.size ≤ g8 := hS8
      have HG8 := Lib.hid hg8
      have hbw := HEW2.out.at_ HB4.out
      have b8 : W.cell? ⟨w.heap.size + 1, 8, none⟩ = some (.int .i64 (q : Nat)) := blk_cell (i := 8) hbw (Ext.refl _) rfl
      have b9 : W.cell? ⟨w.heap.size + 1, 9, none⟩ = some (.int .i64 o.node) := blk_cell (i := 9) hbw (Ext.refl _) rfl
      have b10 : W.cell? ⟨w.heap.size + 1, 10, none⟩ = some (.int .u32 o.gen) := blk_cell (i := 10) hbw (Ext.refl _) rfl
      have hmul : q * 2 + 2 ≤ c8 * 2 := by omega
      clear hg8 hcx8 hl8 hbw
      go_upto_region 7 with (refine Splice.wpList_storeB 114 _ _ rfl rfl rfl g8 (q * 2) #[.int .i64 o.node, .int .u32 o.gen] rfl rfl 114 cur8 HG8.out (by kernel_rfl) (by rw [hcs8]; exact hmul) (by simp [Value.oneCell']) ?_; intro w5 hg5 hc5)
      have hE45 : Ext w4 w5 := HEW2.out.chg hc5 fun i hi => by rw [hi]; exact hS8
      have hput : Splice.putAt (cellsL plS (rP r)) (q * 2) [.int .i64 o.node, .int .u32 o.gen] = cellsL plS ((rP r).set q (pl o.node o.gen)) := cellsL_put (e := plS) (x := pl o.node o.gen) (by rw [HRPL.out]; omega)
      have hown5 : New w4 w5 114 2 (some ⟨g8, 0, none⟩) sl c8 (cellsL plS ((rP r).set q (pl o.node o.gen))) := by
        have := Splice.own_store (o := q * 2) HOWN.out HG8.out (by show q * 2 + 2 ≤ sl * 2; omega) hg5
        rwa [hput] at this
      have heach : ∀ x ∈ (rP r).set q (pl o.node o.gen), ∀ W, plS.ok W x := fun x hx W => by
        rcases List.mem_or_eq_of_mem_set hx with hx | hx
        · obtain ⟨i, hi, hix⟩ := List.getElem_of_mem hx
          exact pl_any (sl_each HROK.out (i := i) (x := x) (by rw [List.getElem?_eq_getElem hi, hix]))
        · rw [hx]
          exact ⟨HO.out.node, HO.out.gen, trivial⟩
      have HEACH := Lib.hid heach
      have hlen5 : ((rP r).set q (pl o.node o.gen)).length = sl := by rw [List.length_set]; exact HRPL.out
      have HOW5 := Lib.hid hown5
      have HLEN5 := Lib.hid hlen5
      have HE5 := Lib.hid (HE4.out.trans hE45)
      have ht5 := hE45.at_ HT4.out
      have HT5 := Lib.hid ht5
      have HB5 := Lib.hid (hE45.at_ HB4.out)
      have HZ5 := Lib.hid (hE45.at_ HZ4.out)
      have HW5 := Lib.hid (hE45.at_ HW4.out)
      have HC5' := Lib.hid (hE45.cell_ HC4.out)
      have hw45 : w4.heap.size ≤ w5.heap.size := hE45.size
      have hrowok : (Sh.sl plS).ok w5 (some ⟨g8, 0, none⟩, sl, c8, (rP r).set q (pl o.node o.gen)) :=
        ok_own (W := w5) (e := plS) hown5 (by decide) hlen5 (fun x hx => heach x hx _) (fun a v _ hc => hc) (own_max hown5)
      have HROWOK := Lib.hid hrowok
      clear b8 b9 b10 hg5 hc5 hput hown5 heach hlen5 hE45 hrowok
      -- what it is called
      have hjt : o.stripe.toNat = j := by rw [HJ.out]; rfl
      have hqt : o.slot.toNat = q := by rw [HQQ.out]; rfl
      have hrow : rowOf ⟨nx, ls, some ad, n, c, objs⟩ o = rP r := by
        unfold rowOf
        dsimp only
        rw [HIDX.out]
        dsimp only
        rw [hjt, HR0.out]
      have hto : toRow ⟨nx, ls, some ad, n, c, objs⟩ o = (rP r).set q (pl o.node o.gen) := by unfold toRow; rw [hrow, hqt]
      have hnbad : ¬ badMove sl ⟨nx, ls, some ad, n, c, objs⟩ o := by
        intro hb
        have hg := HGOOD.out
        rcases hb with h | h | h | h | h
        · have h : numAt objs o.num < 0 := h
          rw [HK.out] at h
          omega
        · exact hg (.inl h)
        · exact hg (.inr (.inl (h ob HIDX.out)))
        · exact hg (.inr (.inr (.inl h)))
        · exact hg (.inr (.inr (.inr h)))
      have HROW := Lib.hid hrow
      have HTO := Lib.hid hto
      have HNB := Lib.hid hnbad
      have HQT := Lib.hid hqt
      have HJT := Lib.hid hjt
      clear hrow hto hnbad hqt hjt
      have t0 := blk_cell (i := 0) ht5 (Ext.refl _) rfl; have tf0 := Pack.free_of ht5 0; have t1 := blk_cell (i := 1) ht5 (Ext.refl _) rfl; have tf1 := Pack.free_of ht5 1; have t2 := blk_cell (i := 2) ht5 (Ext.refl _) rfl; have tf2 := Pack.free_of ht5 2; have t3 := blk_cell (i := 3) ht5 (Ext.refl _) rfl; have tf3 := Pack.free_of ht5 3; have t4 := blk_cell (i := 4) ht5 (Ext.refl _) rfl; have tf4 := Pack.free_of ht5 4
      go_wp2_with fail
      refine (rRight_calls sl nd ⟨nx, ls, some ad, n, c, objs⟩ (some ⟨g8, 0, none⟩) sl c8 ((rP r).set q (pl o.node o.gen)) w5 HROWOK.out hsl40).mono ?_
      rintro e w6 ⟨he6, b, rfl, hb6⟩
      have HE56 := Lib.hid he6
      have HE6 := Lib.hid (HE5.out.trans he6)
      have ht6 := he6.at_ HT5.out
      have hz6 := he6.at_ HZ5.out
      have HT6 := Lib.hid ht6
      have HB6 := Lib.hid (he6.at_ HB5.out)
      have HZ6 := Lib.hid hz6
      clear he6 t0 t1 t2 t3 t4 tf0 tf1 tf2 tf3 tf4 ht5
      have t0 := blk_cell (i := 0) ht6 (Ext.refl _) rfl; have tf0 := Pack.free_of ht6 0; have t1 := blk_cell (i := 1) ht6 (Ext.refl _) rfl; have tf1 := Pack.free_of ht6 1; have t2 := blk_cell (i := 2) ht6 (Ext.refl _) rfl; have tf2 := Pack.free_of ht6 2; have t3 := blk_cell (i := 3) ht6 (Ext.refl _) rfl; have tf3 := Pack.free_of ht6 3; have t4 := blk_cell (i := 4) ht6 (Ext.refl _) rfl; have tf4 := Pack.free_of ht6 4
      cases b with
      | false =>
        have HC : Hid (moveC sl nd ⟨nx, ls, some ad, n, c, objs⟩ o = 1) := Lib.hid (by
          unfold moveC
          rw [if_neg HNB.out, if_pos]
          rw [HTO.out]
          exact fun hh => by have := hb6.2 hh; cases this)
        clear hb6
        go_wp2_with (refine RowSt.wpList_put 149 _ _ rfl rfl rfl (w.heap.size + 2) (tabC sl nd ⟨nx, ls, _, n, c, objs⟩) rfl rfl 149 _ hz6 (by kernel_rfl) rfl (by simp [Value.oneCell']) ?_; intro w9 hb9 hc9)
        refine bodyPost_ret (v := .tuple #[tabV sl nd ⟨nx, ls, _, n, c, objs⟩, .int .i64 1]) (RowSt.results_cell_tmp (p := 4) (q := 5) rfl _ _ (w.heap.size + 2) 149 _ (0, 0) _ rfl hb9 Try.underlying149 rfl (by kernel_rfl)) rfl ?_
        exact HNO.out _ _ (by decide) HC.out (HE6.out.chg hc9 fun i hi => by have hi : i = w.heap.size + 2 := hi; omega)
      | true =>
        have HRIGHT := Lib.hid (hb6.1 rfl)
        have o10 : w6.cell? ⟨w.heap.size + 1, 10, none⟩ = some (.int .u32 o.gen) := blk_cell (i := 10) HB6.out (Ext.refl _) rfl
        have p1 : w6.cell? ⟨wp, 1, none⟩ = some (.int .u32 (gen p)) := blk_cell (i := 1) (HE56.out.at_ HW5.out) (Ext.refl _) rfl
        clear hb6
        by_cases hgen : o.gen ≤ gen p
        · have HC : Hid (moveC sl nd ⟨nx, ls, some ad, n, c, objs⟩ o = 28) := Lib.hid (by
            unfold moveC
            rw [if_neg HNB.out, if_neg (by rw [HTO.out]; exact fun k => k HRIGHT.out), if_pos]
            rw [HROW.out, HQT.out]
            exact ⟨p, HP.out, hgen⟩)
          go_wp2_with (refine RowSt.wpList_put 149 _ _ rfl rfl rfl (w.heap.size + 2) (tabC sl nd ⟨nx, ls, _, n, c, objs⟩) rfl rfl 149 _ hz6 (by kernel_rfl) rfl (by simp [Value.oneCell']) ?_; intro w9 hb9 hc9)
          refine bodyPost_ret (v := .tuple #[tabV sl nd ⟨nx, ls, _, n, c, objs⟩, .int .i64 28]) (RowSt.results_cell_tmp (p := 4) (q := 5) rfl _ _ (w.heap.size + 2) 149 _ (0, 0) _ rfl hb9 Try.underlying149 rfl (by kernel_rfl)) rfl ?_
          exact HNO.out _ _ (by decide) HC.out (HE6.out.chg hc9 fun i hi => by have hi : i = w.heap.size + 2 := hi; omega)
        · have HC : Hid (moveC sl nd ⟨nx, ls, some ad, n, c, objs⟩ o = 0) := Lib.hid (by
            unfold moveC
            rw [if_neg HNB.out, if_neg (by rw [HTO.out]; exact fun k => k HRIGHT.out), if_neg]
            rw [HROW.out, HQT.out]
            rintro ⟨p2, hp2, h2⟩
            rw [HP.out] at hp2
            cases hp2
            exact hgen h2)
          have hlo := (sl_len H.out).1
          have HLO := Lib.hid hlo
          have HLL : Hid ((cellsL objS objs).length = n * 6) := Lib.hid (by rw [cellsL_length, hlo]; rfl)
          clear hlo
          have t4a : ∀ ob, (w6.alloc ob).cell? ⟨w.heap.size, 4, none⟩ = some (.slice (some ad) n c) := fun ob => (Ext.new w6 ob).cell_ t4
          have hlt6 : w.heap.size + 2 < w6.heap.size := Pack.lt_of_at HZ6.out
          go_upto_region 12 with (at_builtin; refine wpList_appV _ rfl _ _ _ rfl (fun i => w6.heap.size ≤ i) 234 _ 6 72 Try.underlying147 infoRObj rfl (by decide) (by decide) _ 0 [] rfl (own_empty (at_new w6 _) (Nat.le_refl _)) (some ad) n c (cellsL objS objs) rfl HLL.out (fun h => by cases h) (fun ad' ha j' u hu => (HE6.out.trans (Ext.new w6 _)).cell_ (ok_cells H.out (by decide) ad' ha j' u hu)) (cellsL_one_ _ _) (by omega) (fun i hi => Nat.le_trans (by simp) hi) ?_; intro A9 c9 w7 ho7 hc7; have hE67 : Ext w6 w7 := (Ext.new w6 (.cells #[] 234)).chg hc7 (fun i hi => by have hi : some w6.heap.size = some i := hi; cases hi; exact Nat.le_refl _); have ht7 := hE67.at_ HT6.out; have f7 := Pack.free_of ht7 4; have x7 := blk_cell (i := 4) ht7 (Ext.refl _) rfl)
          -- the new list, in its variable
          have HE67 := Lib.hid hE67
          have HO7 : Hid (New w6 w7 234 6 A9 n c9 (cellsL objS objs)) := Lib.hid (by simpa using ho7)
          have hs8 := set_blk (i := 4) ht7 (.slice A9 n c9)
          have hc8 : Chg (fun i => i = w.heap.size) w7 (w7.setCell ⟨w.heap.size, 4, none⟩ (.slice A9 n c9)) := (Chg.refl (fun i => i = w.heap.size) w7).setCell (p := ⟨w.heap.size, 4, none⟩) rfl _
          clear ho7 hc7 x7 f7 t0 t1 t2 t3 t4 tf0 tf1 tf2 tf3 tf4 t4a ht6 hz6 o10 p1 hE67
          have ho8 := HO7.out.chg hc8 fun i (hi : w6.heap.size ≤ i) e => by have e : i = w.heap.size := e; omega
          have how8 := ((HOW5.out.extNew HE56.out).extNew HE67.out).chg hc8 fun i (hi : w4.heap.size ≤ i) e => by have e : i = w.heap.size := e; have := HE34.out.size; omega
          have hlt7 : w6.heap.size ≤ w7.heap.size := HE67.out.size
          have HB8 := Lib.hid (hc8.at_ (HE67.out.at_ HB6.out) (by omega))
          have HZ8 := Lib.hid (hc8.at_ (HE67.out.at_ HZ6.out) (by omega))
          have HE8 := Lib.hid ((HE6.out.trans HE67.out).chg hc8 fun i hi => by have hi : i = w.heap.size := hi; omega)
          have HT8 : Hid ((w7.setCell ⟨w.heap.size, 4, none⟩ (.slice A9 n c9)).heap[w.heap.size]? = some (.cells #[.int .i64 sl, .int .i64 nd, .int .u32 nx, .int .u32 ls, .slice A9 n c9] 149 (0, 0))) := Lib.hid (by simpa using hs8)
          have HO8 := Lib.hid ho8
          have HOW8 := Lib.hid how8
          have hsz8 : (w7.setCell ⟨w.heap.size, 4, none⟩ (.slice A9 n c9)).heap.size = w7.heap.size := by simp
          clear ho8 how8 hs8 hc8 ht7
          generalize w7.setCell ⟨w.heap.size, 4, none⟩ (.slice A9 n c9) = w8 at *
          rcases A9 with _ | a9
          · have := (Splice.own_none HO8.out).1
            omega
          obtain ⟨g9, cur9, rfl, hg9, hnc9, hcm9, hcs9, hcx9, hS9, hl9⟩ := Splice.blk_own HO8.out
          have hS9 : w6.heap.size ≤ g9 := hS9
          have HG9 := Lib.hid hg9
          have hcell5 : w8.cell? ⟨g9, k * 6 + 5, none⟩ = some (.slice (some adp) (pN ob) (pC ob)) := by
            have h1 : (cellsL objS objs)[k * objS.size + 5]? = some (.slice (some adp) (pN ob) (pC ob)) := by
              rw [cellsL_get HOB.out (by decide), ← HPA.out]
              rfl
            obtain ⟨a', h2, h3⟩ := own_cell HO8.out h1
            cases h2
            rw [Splice.add_zero_] at h3
            simpa [Sh.size, Fs.size] using h3
          have HC8 := Lib.hid hcell5
          have HD8 := Lib.hid (HE8.out.trans (Ext.drew (Ext.refl _)))
          have HRLL : Hid ((cellsL rowS (rows ob)).length = pN ob * 1) := Lib.hid (by rw [cellsL_length, HRL2.out]; rfl)
          have y4 : ∀ W, Ext w8.drew W → W.cell? ⟨w.heap.size, 4, none⟩ = some (.slice (some ⟨g9, 0, none⟩) n c9) := fun W hW => blk_cell (i := 4) HT8.out (drew_ext hW) rfl
          have y5 : ∀ W, Ext w8.drew W → W.cell? ⟨g9, k * 6 + 5, none⟩ = some (.slice (some adp) (pN ob) (pC ob)) := fun W hW => (drew_ext hW).cell_ HC8.out
          clear hg9 hcx9 hl9 hcell5
          refine Lex.wp_region_r [0, 1, 2, 3, 4, 5, 6, 7, 8, 9, 10, 11, 12] [13] [(10, 3)] [(3, Lex.rowR w8.drew 212 1 0 []), (10, Lex.rowR w8.drew 212 1 (pN ob) (cellsL rowS (rows ob)))] (by kernel_rfl) (by kernel_rfl) (by kernel_rfl) (by repeat (first | exact Lex.ok_nilR | refine Lex.ok_consR (by first | exact Lex.rowR_ok | exact Tbl.rdR_ok | assumption) ?_)) ?_; simp only [Lex.pick, List.getElem?_cons_succ, List.getElem?_cons_zero, List.map_cons, List.map_nil]
          repeat (first | (refine Lex.lexR_skip (by rfl) ?_; simp only [Act.put, List.setIfInBounds_toArray, List.set_cons_zero, List.set_cons_succ]) | (refine Lex.lexR_still (by rfl) (by rfl) ?_; apply Exists.intro; refine ⟨fun W hW => ?_, ?_⟩; (have hE := hW; have hE2 := Lex.ext_drew hE; clear hW; go_simp; try with_reducible rfl); simp only [Act.put, List.setIfInBounds_toArray, List.set_cons_zero, List.set_cons_succ]))
          refine Lex.lexR_loose (by rfl) (by rfl) (fun W hW hAP => ?_) ?_
          · have hE := hW.1
            clear hW
            go_simp
            exact Lex.rowR_new hE.size (Ext.new _ _) (own_empty (at_new _ _) (Nat.le_refl _))
          rintro v fx ⟨A0, c0, rfl⟩
          simp only [Act.put, List.setIfInBounds_toArray, List.set_cons_zero, List.set_cons_succ]
          repeat (first | (refine Lex.lexR_skip (by rfl) ?_; simp only [Act.put, List.setIfInBounds_toArray, List.set_cons_zero, List.set_cons_succ]) | (refine Lex.lexR_still (by rfl) (by rfl) ?_; apply Exists.intro; refine ⟨fun W hW => ?_, ?_⟩; (have hE := hW; have hE2 := Lex.ext_drew hE; clear hW; go_simp; try with_reducible rfl); simp only [Act.put, List.setIfInBounds_toArray, List.set_cons_zero, List.set_cons_succ]))
          refine Lex.lexR_loose (by rfl) (by rfl) (fun W hW hAP => ?_) ?_
          · obtain ⟨hown, hfo⟩ := ((hW.2 3 (by kernel_rfl) rfl).2 rfl) _ _ rfl
            have hE := hW.1
            clear hW
            refine Lex.app_looseR (.tmp 97) (.tmp 103) _ rfl 212 _ 1 24 Try.underlying112 infoRRow rfl (by decide) (by decide) rfl hown (fun i hi => ⟨3, by simp, .inr ⟨rfl, hfo i hi⟩⟩) rfl HRLL.out (fun h => by cases h) (fun ad' ha j' u hu => (HD8.out.trans hE).cell_ (ok_cells HRL.out (by decide) ad' (by rw [HPA.out]; exact ha) j' u hu)) (cellsL_one_ _ _) (by omega) hE.size (Nat.zero_add _) rfl
          rintro v fx ⟨A12, c12, rfl⟩
          simp only [Act.put, List.setIfInBounds_toArray, List.set_cons_zero, List.set_cons_succ]
          repeat (first | (refine Lex.lexR_skip (by rfl) ?_; simp only [Act.put, List.setIfInBounds_toArray, List.set_cons_zero, List.set_cons_succ]) | (refine Lex.lexR_still (by rfl) (by rfl) ?_; apply Exists.intro; refine ⟨fun W hW => ?_, ?_⟩; (have hE := hW; have hE2 := Lex.ext_drew hE; clear hW; go_simp; try with_reducible rfl); simp only [Act.put, List.setIfInBounds_toArray, List.set_cons_zero, List.set_cons_succ]))
          refine Lex.lexR_nil (fun W hW hF => ?_)
          have hown12 := (((hF 10 rfl).2 rfl) _ _ rfl).1
          have hEW := Lex.ext_drew hW
          clear hW hF y4 y5
          have HE8W := Lib.hid hEW
          rcases A12 with _ | a12
          · have := (Splice.own_none hown12).1
            omega
          obtain ⟨g12, cur12, rfl, hg12, hnc12, hcm12, hcs12, hcx12, hS12, hl12⟩ := Splice.blk_own hown12
          have hS12 : w8.heap.size ≤ g12 := hS12
          have hg9w := hEW.at_ HG9.out
          have x5 : W.cell? ⟨g9, k * 6 + 5, none⟩ = some (.slice (some adp) (pN ob) (pC ob)) := hEW.cell_ HC8.out
          have f5 := Pack.free_of hg9w (k * 6 + 5)
          have hne : g12 ≠ g9 := fun e => by rw [e, hg9w] at hg12; cases hg12
          have hc9 : Chg (fun i => i = g9) W (W.setCell ⟨g9, k * 6 + 5, none⟩ (.slice (some ⟨g12, 0, none⟩) (pN ob) c12)) := (Chg.refl (fun i => i = g9) W).setCell (p := ⟨g9, k * 6 + 5, none⟩) rfl _
          have hset := own_setv (HO8.out.extNew hEW) (k * 6 + 5) (.slice (some ⟨g12, 0, none⟩) (pN ob) c12)
          rw [Splice.add_zero_, Nat.zero_add, cellsL_set5 (l := (rows ob).set j (mkRow (some ⟨g8, 0, none⟩) sl c8 ((rP r).set q (pl o.node o.gen)))) HOB.out] at hset
          have hkd : ∀ e, e ≠ 234 → ∀ i, i = g9 → i < W.heap.size → ∃ c e' f, W.heap[i]? = some (.cells c e' f) ∧ e ≠ e' := fun e he i hi _ => by subst hi; exact ⟨_, _, _, hg9w, he⟩
          have h12 := Own.kind hown12 hc9 (hkd _ (by decide))
          have h8 := Own.kind (HOW8.out.extNew hEW) hc9 (hkd _ (by decide))
          have hw9 : w.heap.size ≠ g9 := by omega
          have HT9 := Lib.hid (hc9.at_ (hEW.at_ HT8.out) hw9)
          have HB9 := Lib.hid (hc9.at_ (hEW.at_ HB8.out) (by omega))
          have HZ9 := Lib.hid (hc9.at_ (hEW.at_ HZ8.out) (by omega))
          have hc9' : Ext w (W.setCell ⟨g9, k * 6 + 5, none⟩ (.slice (some ⟨g12, 0, none⟩) (pN ob) c12)) := (HE8.out.trans hEW).chg hc9 fun i hi => by have hi : i = g9 := hi; omega
          have HE9 := Lib.hid hc9'
          have q5 : (W.setCell ⟨g9, k * 6 + 5, none⟩ (.slice (some ⟨g12, 0, none⟩) (pN ob) c12)).cell? ⟨g9, k * 6 + 5, none⟩ = some (.slice (some ⟨g12, 0, none⟩) (pN ob) c12) := by
            have h1 := set_blk (i := k * 6 + 5) hg9w (.slice (some ⟨g12, 0, none⟩) (pN ob) c12)
            refine blk_cell (i := k * 6 + 5) h1 (Ext.refl _) ?_
            rw [Array.getElem?_setIfInBounds_self_of_lt]
            omega
          have HQ5 := Lib.hid q5
          have HL9 := Lib.hid hset
          have HP9 := Lib.hid h12
          have HX9 := Lib.hid h8
          clear hset h12 h8 hc9 hc9' q5 hkd hown12 hg12 hcx12 hl12 hg9w
          go_wp2_with fail
          try simp only [Lex.onlyN]
          go_upto_region 13 with fail
          generalize W.setCell ⟨g9, k * 6 + 5, none⟩ (.slice (some ⟨g12, 0, none⟩) (pN ob) c12) = w9 at *
          clear x5 f5
          have y4 : ∀ W, Ext w9.drew W → W.cell? ⟨w.heap.size, 4, none⟩ = some (.slice (some ⟨g9, 0, none⟩) n c9) := fun W hW => blk_cell (i := 4) HT9.out (drew_ext hW) rfl
          have y5 : ∀ W, Ext w9.drew W → W.cell? ⟨g9, k * 6 + 5, none⟩ = some (.slice (some ⟨g12, 0, none⟩) (pN ob) c12) := fun W hW => (drew_ext hW).cell_ HQ5.out
          have z7 : ∀ W, Ext w9.drew W → W.cell? ⟨w.heap.size + 1, 7, none⟩ = some (.int .i64 (j : Nat)) := fun W hW => blk_cell (i := 7) HB9.out (drew_ext hW) rfl
          refine Lex.wp_region_u [0, 1, 2, 3, 4, 5, 6, 7, 8, 9] [10] [] (by kernel_rfl) (by kernel_rfl) (by repeat (first | exact Lex.st_nil | refine Lex.st_cons (by first | exact Lex.nums_st | exact Lex.const_st | exact Lex.such_st | exact Lex.row_st | exact Lex.rowE_st | exact Lex.litR_st | assumption) ?_)) ?_; simp only [Lex.pick, List.getElem?_cons_succ, List.getElem?_cons_zero, List.map_cons, List.map_nil]
          repeat (first | (refine Lex.lexU_skip (by rfl) ?_; simp only [Act.put, List.setIfInBounds_toArray, List.set_cons_zero, List.set_cons_succ]) | (refine Lex.lexU_still (by rfl) (by rfl) (by first | exact Base.Ext.refl | exact Lex.Fill.refl) ?_; apply Exists.intro; refine ⟨fun W hW => ?_, ?_⟩; (have hE := Lex.ext_of_cls hW.1; have hE2 := Lex.ext_drew hE; clear hW; go_simp; try with_reducible rfl); simp only [Act.put, List.setIfInBounds_toArray, List.set_cons_zero, List.set_cons_succ]))
          refine Lex.lexU_nil (fun W hW => ?_)
          have hEW := Lex.ext_drew hW.1
          clear hW y4 y5 z7
          obtain ⟨g12', cur12', hq12, hg12, _, _, hcs12', hcx12', _, _⟩ := Splice.blk_own HP9.out
          cases hq12
          have hg12w := hEW.at_ hg12
          obtain ⟨vj, hvj⟩ : ∃ vj, cur12'.toList[j]? = some vj := ⟨_, List.getElem?_eq_getElem (by rw [Array.length_toList, hcs12']; omega)⟩
          have x12 : W.cell? ⟨g12, j, none⟩ = some vj := Splice.cell_blk hg12w hvj
          have f12 := Pack.free_of hg12w j
          have hc10 : Chg (fun i => i = g12) W (W.setCell ⟨g12, j, none⟩ (.slice (some ⟨g8, 0, none⟩) sl c8)) := (Chg.refl (fun i => i = g12) W).setCell (p := ⟨g12, j, none⟩) rfl _
          have hset := own_setv (HP9.out.extNew hEW) j (.slice (some ⟨g8, 0, none⟩) sl c8)
          rw [Splice.add_zero_, Nat.zero_add] at hset
          have hset : New w8.drew (W.setCell ⟨g12, j, none⟩ (.slice (some ⟨g8, 0, none⟩) sl c8)) 212 1 (some ⟨g12, 0, none⟩) (pN ob) c12 (cellsL rowS ((rows ob).set j (mkRow (some ⟨g8, 0, none⟩) sl c8 ((rP r).set q (pl o.node o.gen))))) := by
            rw [← rowsL_set]
            exact hset
          have hkd : ∀ e, e ≠ 212 → ∀ i, i = g12 → i < W.heap.size → ∃ c e' f, W.heap[i]? = some (.cells c e' f) ∧ e ≠ e' := fun e he i hi _ => by subst hi; exact ⟨_, _, _, hg12w, he⟩
          have HL10 := Lib.hid (Own.kind (HL9.out.extNew hEW) hc10 (hkd _ (by decide)))
          have HX10 := Lib.hid (Own.kind (HX9.out.extNew hEW) hc10 (hkd _ (by decide)))
          have HP10 := Lib.hid hset
          have h8w : w.heap.size + 2 < w8.heap.size := Pack.lt_of_at HZ8.out
          have HT10 := Lib.hid (hc10.at_ (hEW.at_ HT9.out) (by omega))
          have HZ10 := Lib.hid (hc10.at_ (hEW.at_ HZ9.out) (by omega))
          have HE10 := Lib.hid ((HE9.out.trans hEW).chg hc10 fun i hi => by have hi : i = g12 := hi; omega)
          clear hset hc10 hkd hg12 hg12w hcx12' hvj hEW
          go_wp2_with fail
          try simp only [Lex.onlyN]
          go_upto_region 14 with fail
          generalize W.setCell ⟨g12, j, none⟩ (.slice (some ⟨g8, 0, none⟩) sl c8) = wx at *
          clear x12 f12
          have hb10 := HT10.out
          have t0 := blk_cell (i := 0) hb10 (Ext.refl _) rfl; have tf0 := Pack.free_of hb10 0; have t1 := blk_cell (i := 1) hb10 (Ext.refl _) rfl; have tf1 := Pack.free_of hb10 1; have t2 := blk_cell (i := 2) hb10 (Ext.refl _) rfl; have tf2 := Pack.free_of hb10 2; have t3 := blk_cell (i := 3) hb10 (Ext.refl _) rfl; have tf3 := Pack.free_of hb10 3; have t4 := blk_cell (i := 4) hb10 (Ext.refl _) rfl; have tf4 := Pack.free_of hb10 4
          go_wp2_with (refine RowSt.wpList_put 149 _ _ rfl rfl rfl (w.heap.size + 2) (tabC sl nd ⟨nx, ls, some ⟨g9, 0, none⟩, n, c9, objs.set k (mkObj ob (some ⟨g12, 0, none⟩) (pN ob) c12 ((rows ob).set j (mkRow (some ⟨g8, 0, none⟩) sl c8 ((rP r).set q (pl o.node o.gen)))))⟩) rfl rfl 149 _ HZ10.out (by kernel_rfl) rfl (by simp [Value.oneCell']) ?_; intro wz hbz hcz)
          refine bodyPost_ret (v := .tuple #[tabV sl nd ⟨nx, ls, some ⟨g9, 0, none⟩, n, c9, objs.set k (mkObj ob (some ⟨g12, 0, none⟩) (pN ob) c12 ((rows ob).set j (mkRow (some ⟨g8, 0, none⟩) sl c8 ((rP r).set q (pl o.node o.gen)))))⟩, .int .i64 0]) (RowSt.results_cell_tmp (p := 4) (q := 5) rfl _ _ (w.heap.size + 2) 149 _ (0, 0) _ rfl hbz Try.underlying149 rfl (by kernel_rfl)) rfl ?_
          rw [HQ.out, HC.out]
          have HEZ : Ext w wz := HE10.out.chg hcz fun i hi => by have hi : i = w.heap.size + 2 := hi; omega
          have hl := HL10.out.chg hcz fun i (hi : w6.heap.size ≤ i) e => by have e : i = w.heap.size + 2 := e; omega
          have hpz := HP10.out.chg hcz fun i (hi : w8.heap.size ≤ i) e => by have e : i = w.heap.size + 2 := e; omega
          have hxz := HX10.out.chg hcz fun i (hi : w4.heap.size ≤ i) e => by have e : i = w.heap.size + 2 := e; have := HE34.out.size; omega
          obtain ⟨k1, k2, k3, _⟩ := obj_ok HOBK.out
          have hsz4 : w.heap.size ≤ w4.heap.size := HE4.out.size
          have hsz6 : w.heap.size ≤ w6.heap.size := HE6.out.size
          have hsz8 : w.heap.size ≤ w8.heap.size := HE8.out.size
          refine ⟨_, rfl, HEZ, fun WK hW0 hWk => ?_, fun h => absurd rfl h, fun _ => ⟨k, ob, (mkObj ob (some ⟨g12, 0, none⟩) (pN ob) c12 ((rows ob).set j (mkRow (some ⟨g8, 0, none⟩) sl c8 ((rP r).set q (pl o.node o.gen))))), HK.out, HOB.out, by rw [HTO.out]; exact HRIGHT.out, ⟨rfl, rfl, rfl, rfl, by show ((rows ob).set _ _).length = _; rw [List.length_set], fun i r0 r' h1 h2 => ?_⟩, rfl, rfl, rfl⟩⟩
          · have hlK := keepE hl (by decide) hsz6 hWk
            have hpK := keepE hpz (by decide) hsz8 hWk
            have hxK := keepE hxz (by decide) hsz4 hWk
            have hrl0 : (Sh.sl rowS).ok w0 (pA ob, pN ob, pC ob, rows ob) := (obj_ok (sl_each H0.out HOB.out)).2.2.2
            have hrowz : (Sh.sl plS).ok WK (some ⟨g8, 0, none⟩, sl, c8, (rP r).set q (pl o.node o.gen)) :=
              ok_own (W := WK) (e := plS) hxK (by decide) HLEN5.out (fun x hx => HEACH.out x hx _) (fun a v _ hc => hc) (own_max hxz)
            have hplz : (Sh.sl rowS).ok WK (some ⟨g12, 0, none⟩, pN ob, c12, (rows ob).set j (mkRow (some ⟨g8, 0, none⟩) sl c8 ((rP r).set q (pl o.node o.gen)))) := by
              refine ok_own (W := WK) (e := rowS) hpK (by decide) (by rw [List.length_set]; exact HRL2.out) (fun x hx => ?_) (fun a v _ hc => hc) (own_max hpz)
              rcases List.mem_or_eq_of_mem_set hx with hx | hx
              · obtain ⟨i, hi, hix⟩ := List.getElem_of_mem hx
                exact Sh.ok_le hW0 _ _ (sl_each hrl0 (i := i) (by rw [List.getElem?_eq_getElem hi, hix]))
              · rw [hx]
                exact hrowz
            have hobz : objS.ok WK (mkObj ob (some ⟨g12, 0, none⟩) (pN ob) c12 ((rows ob).set j (mkRow (some ⟨g8, 0, none⟩) sl c8 ((rP r).set q (pl o.node o.gen))))) := by
              have hall : (Lit.int .u32 (num ob)).wf = true ∧ (name ob).size ≤ maxLen ∧ planS.ok WK (plan ob) ∧ (Sh.sl rowS).ok WK (some ⟨g12, 0, none⟩, pN ob, c12, (rows ob).set j (mkRow (some ⟨g8, 0, none⟩) sl c8 ((rP r).set q (pl o.node o.gen)))) ∧ True := ⟨k1, k2, plan_any k3, hplz, trivial⟩
              exact hall
            refine ok_own (W := WK) (e := objS) hlK (by decide) (by rw [List.length_set]; exact HLO.out) (fun x hx => ?_) (fun a v _ hc => hc) (own_max hl)
            rcases List.mem_or_eq_of_mem_set hx with hx | hx
            · obtain ⟨i, hi, hix⟩ := List.getElem_of_mem hx
              exact Sh.ok_le hW0 _ _ (sl_each H0.out (i := i) (by rw [List.getElem?_eq_getElem hi, hix]))
            · rw [hx]
              exact hobz
          · have h2 : ((rows ob).set j (mkRow (some ⟨g8, 0, none⟩) sl c8 ((rP r).set q (pl o.node o.gen))))[i]? = some r' := h2
            rw [HJT.out, HQT.out]
            by_cases hij : i = j
            · subst hij
              have hlt := (List.getElem?_eq_some_iff.1 h1).1
              rw [List.getElem?_set] at h2
              simp only [hlt, if_true] at h2
              cases h2
              rw [HR0.out] at h1
              cases h1
              exact ⟨HRSL.out.symm, by rw [if_pos rfl]; rfl⟩
            · rw [List.getElem?_set_ne (Ne.symm hij)] at h2
              rw [h1] at h2
              cases h2
              exact ⟨rfl, by rw [if_neg hij]⟩
end Go.Proofs.Ytfhgjopoohfhjaa.Tbl
