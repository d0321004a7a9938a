/- The document's tables: an object is let be there; walked. -/
import Derived.Test.YtfhgjopoohfhjaaTableV
import Derived.Deep.CutBlock
namespace Go.Proofs.Ytfhgjopoohfhjaa.Tbl
open Go.RowKit Base Step Vec Shape Erase
/-- How many of the first objects have lesser names. -/
def posFrom (s : ByteArray) : List Obj → Nat
  | [] => 0
  | o :: l => if Op.bytesLess (name o).toList s.toList = true then posFrom s l + 1 else 0
theorem posFrom_cons (s : ByteArray) (o : Obj) (l : List Obj) : posFrom s (o :: l) = if Op.bytesLess (name o).toList s.toList = true then posFrom s l + 1 else 0 := rfl
theorem ok_take {w : World} {e : Sh} {A : Option Addr} {n c : Nat} {l : List e.T} (h : (Sh.sl e).ok w (A, n, c, l)) (hs : 0 < e.size) (p : Nat) : ∀ ad, A = some ad → ∀ j u, (cellsL e (l.take p))[j]? = some u → w.cell? (ad.add j) = some u := fun ad ha j u hu => by
  rw [← cellsL_take] at hu
  refine ok_cells h hs ad ha j u ?_
  rw [List.getElem?_take] at hu
  split at hu
  · exact hu
  · cases hu
/-- Where a slice lies from its p-th element on. -/
def cutA (A : Option Addr) (p c sz : Nat) : Option Addr := if p = c then A else A.map fun a => a.add (p * sz)
theorem ok_drop {w : World} {e : Sh} {A : Option Addr} {n c : Nat} {l : List e.T} (h : (Sh.sl e).ok w (A, n, c, l)) (hs : 0 < e.size) (p : Nat) : ∀ ad, cutA A p c e.size = some ad → ∀ j u, (cellsL e (l.drop p))[j]? = some u → w.cell? (ad.add j) = some u := fun ad ha j u hu => by
  unfold cutA at ha
  split at ha
  · rename_i hpc
    have h1 := (sl_len h).1
    have h2 := (sl_len h).2.1
    rw [List.drop_of_length_le (by omega)] at hu
    simp [cellsL] at hu
  · obtain ⟨a, rfl, rfl⟩ := Option.map_eq_some_iff.1 ha
    rw [← cellsL_drop, List.getElem?_drop] at hu
    have := ok_cells h hs a rfl _ u hu
    rwa [add_of_add]
theorem cutA_none {A : Option Addr} {p c sz : Nat} (h : cutA A p c sz = none) : A = none := by
  unfold cutA at h
  split at h
  · exact h
  · simpa using h
theorem infoRObj : (Try.prog.info? 234).map (fun i => (i.zero, i.size, i.bytes)) = some (some (.agg #[.int .u32 0, .string ByteArray.empty, .int .i64 0, .int .i64 0, .int .i64 0, .slice none 0 0]), 6, 72) := by kernel_rfl
theorem posFrom_le (s : ByteArray) : ∀ l : List Obj, posFrom s l ≤ l.length
  | [] => Nat.le_refl _
  | o :: l => by
    rw [posFrom_cons]
    have := posFrom_le s l
    split
    · simp; omega
    · exact Nat.zero_le _
/-- Whatever is read there is read here. -/
def Sub (a b : World) : Prop := ∀ ad v, a.cell? ad = some v → b.cell? ad = some v
theorem Sub.ext {a b c : World} (h : Sub a b) (k : Ext b c) : Sub a c := fun ad v hc => k.cell_ (h ad v hc)
theorem OpAt.sub {w w' : World} {o : Op} (h : OpAt w o) (he : Sub w w') : OpAt w' o := ⟨h.num, h.name, h.l, h.c, h.p, Sh.ok_le he _ _ h.rows, h.few, h.each, h.gen, h.node⟩
theorem keepE {w w1 w' W : World} {T : TypeId} {size n c : Nat} {A : Option Addr} {xs : List Value} (h : New w1 w' T size A n c xs) (hT : plainT T = false) (hw : w.heap.size ≤ w1.heap.size) (hk : ∀ i o, w.heap.size ≤ i → w'.heap[i]? = some o → plainO o = false → W.heap[i]? = some o) : New w1 W T size A n c xs :=
  Own.keep h fun g hg => by
    have hlt := Lex.own_ltB h hg
    obtain ⟨o, ho⟩ : ∃ o, w'.heap[g]? = some o := ⟨_, Array.getElem?_eq_getElem hlt⟩
    rw [ho]
    refine hk g o (Nat.le_trans hw (h.foot g hg)) ho ?_
    cases o with
    | cells cs T' f =>
      rcases Decidable.em (T = T') with e | e
      · show plainT T' = false
        rw [← e]
        exact hT
      · exact absurd hg (h.ne ho e)
    | _ => rfl
/-- What the document answers, and the table that it hands on: it is read in what was there ahead (w0) and in what has been laid. -/
def RDid (w0 w : World) (sl nd : Nat) (code : Int) (R : Tb → Prop) (e : Ending) (w' : World) : Prop :=
  ∃ t, e = .returned (.tuple #[tabV sl nd t, .int .i64 code]) ∧ Ext w w' ∧ (∀ W, Sub w0 W → (∀ i o, w.heap.size ≤ i → w'.heap[i]? = some o → plainO o = false → W.heap[i]? = some o) → Doc W t) ∧ R t
abbrev tab0 : Array Value := #[.int .i64 0, .int .i64 0, .int .u32 0, .int .u32 0, .slice none 0 0]
open Classical in
noncomputable def rCommitC (sl nd : Nat) (t : Tb) (o : Op) : Int :=
  if ¬ (NameOk o.name ∧ PlanOk sl nd o) then 1
  else if 0 ≤ nameAt t.objs o.name ∨ 0 ≤ numAt t.objs o.num then 7
  else if o.num ≤ t.ls ∨ t.nx ≤ o.num then 28
  else if 64 ≤ t.n then 20 else 0
def RCommitR (sl nd : Nat) (t : Tb) (o : Op) (code : Int) (t' : Tb) : Prop := (code ≠ 0 → t' = t) ∧ (code = 0 → NameOk o.name ∧ PlanOk sl nd o ∧ t'.nx = t.nx ∧ t'.ls = o.num ∧ t'.objs = t.objs.take (posFrom o.name t.objs) ++ [obOf o] ++ t.objs.drop (posFrom o.name t.objs))
set_option maxRecDepth 100000 in
set_option maxHeartbeats 8000000 in
theorem rCommit_calls (sl nd : Nat) (t : Tb) (o : Op) (w0 w : World) (hw0 : Sub w0 w) (h0 : Doc w0 t) (hn : t.n ≤ 1099511627776) (ho0 : OpAt w0 o) :
    Calls Try.prog 136 #[tabV sl nd t, opV o] w (RDid w0 w sl nd (rCommitC sl nd t o) fun t' => RCommitR sl nd t o (rCommitC sl nd t o) t') := by
  obtain ⟨Q, hQ⟩ : ∃ Q, Q = RDid w0 w sl nd (rCommitC sl nd t o) fun t' => RCommitR sl nd t o (rCommitC sl nd t o) t' := ⟨_, rfl⟩
  have HQ := Lib.hid hQ
  rw [← hQ]
  clear hQ
  have h := Sh.ok_le hw0 _ _ h0
  have ho := ho0.sub hw0
  have H := Lib.hid h
  have HO := Lib.hid ho
  have H0 := Lib.hid h0
  have HO0 := Lib.hid ho0
  have hns := ho.name
  have e0 := Lib.hid (((Ext.new w (.cells (tabC sl nd t) 149)).alloc (.cells (opC o) 116)).alloc (.cells tab0 149))
  have hbt := ((Ext.new (w.alloc (.cells (tabC sl nd t) 149)) (.cells (opC o) 116)).alloc (.cells tab0 149)).at_ (at_new w (.cells (tabC sl nd t) 149))
  have hbo := (Ext.new ((w.alloc (.cells (tabC sl nd t) 149)).alloc (.cells (opC o) 116)) (.cells tab0 149)).at_ (at_new (w.alloc (.cells (tabC sl nd t) 149)) (.cells (opC o) 116))
  have hbz := at_new ((w.alloc (.cells (tabC sl nd t) 149)).alloc (.cells (opC o) 116)) (.cells tab0 149)
  have hsz : (w.alloc (.cells (tabC sl nd t) 149)).heap.size = w.heap.size + 1 := by simp
  have hsz2 : ((w.alloc (.cells (tabC sl nd t) 149)).alloc (.cells (opC o) 116)).heap.size = w.heap.size + 2 := by simp
  rw [hsz] at hbo
  rw [hsz2] at hbz
  clear h ho h0 ho0 hsz hsz2
  -- an answer that leaves the table as it was
  have hno : ∀ (code : Int) (W : World), code ≠ 0 → rCommitC sl nd t o = code → Ext w W → Q (.returned (.tuple #[tabV sl nd t, .int .i64 code])) W := fun code W h0 hc he => by
    rw [HQ.out, hc]
    exact ⟨t, rfl, he, fun W hW _ => Sh.ok_le hW _ _ H0.out, fun _ => rfl, fun k => absurd k h0⟩
  have HNO := Lib.hid hno
  clear hno
  go_enter Try.func136, Try.ntmps136
  go_upto_region 1 with fail
  generalize ((w.alloc (.cells (tabC sl nd t) 149)).alloc (.cells (opC o) 116)).alloc (.cells tab0 149) = w1 at *
  have HBT := Lib.hid hbt
  have HBO := Lib.hid hbo
  have HBZ := Lib.hid hbz
  have b2 : w1.cell? ⟨w.heap.size + 1, 2, none⟩ = some (.string o.name) := blk_cell (i := 2) hbo (Ext.refl _) rfl
  clear hbt hbo hbz
  go_wp2_with fail
  refine (rRightName_calls o.name w1 hns).mono ?_
  rintro e w2 ⟨he2, b, rfl, hbr⟩
  have HE2 := Lib.hid he2
  cases b with
  | false =>
    have HC : Hid (rCommitC sl nd t o = 1) := Lib.hid (by
      unfold rCommitC
      rw [if_pos]
      intro hh
      have := hbr.2 hh.1
      cases this)
    have ht2 := he2.at_ HBT.out
    have hz2 := he2.at_ HBZ.out
    have t0 := blk_cell (i := 0) ht2 (Ext.refl _) rfl; have tf0 := Pack.free_of ht2 0; have t1 := blk_cell (i := 1) ht2 (Ext.refl _) rfl; have tf1 := Pack.free_of ht2 1; have t2 := blk_cell (i := 2) ht2 (Ext.refl _) rfl; have tf2 := Pack.free_of ht2 2; have t3 := blk_cell (i := 3) ht2 (Ext.refl _) rfl; have tf3 := Pack.free_of ht2 3; have t4 := blk_cell (i := 4) ht2 (Ext.refl _) rfl; have tf4 := Pack.free_of ht2 4
    clear he2 hbr b2
    go_wp2_with (refine RowSt.wpList_put 149 _ _ rfl rfl rfl (w.heap.size + 2) (tabC sl nd t) rfl rfl 149 _ hz2 (by kernel_rfl) rfl (by simp [Value.oneCell']) ?_; intro w8 hb8 hc8)
    refine bodyPost_ret (v := .tuple #[tabV sl nd t, .int .i64 1]) (RowSt.results_cell_tmp (p := 4) (q := 5) rfl _ _ (w.heap.size + 2) 149 _ (0, 0) _ rfl hb8 Try.underlying149 rfl (by kernel_rfl)) rfl ?_
    exact HNO.out _ _ (by decide) HC.out ((e0.out.trans HE2.out).chg hc8 fun i hi => by have hi : i = w.heap.size + 2 := hi; omega)
  | true =>
    have HNM := Lib.hid (hbr.1 rfl)
    have ht2 := he2.at_ HBT.out
    have ho2 := he2.at_ HBO.out
    have t0 := blk_cell (i := 0) ht2 (Ext.refl _) rfl; have tf0 := Pack.free_of ht2 0; have t1 := blk_cell (i := 1) ht2 (Ext.refl _) rfl; have tf1 := Pack.free_of ht2 1; have t2 := blk_cell (i := 2) ht2 (Ext.refl _) rfl; have tf2 := Pack.free_of ht2 2; have t3 := blk_cell (i := 3) ht2 (Ext.refl _) rfl; have tf3 := Pack.free_of ht2 3; have t4 := blk_cell (i := 4) ht2 (Ext.refl _) rfl; have tf4 := Pack.free_of ht2 4
    clear he2 hbr b2
    go_wp2_with (refine wpList_load_rowG rfl 116 _ rfl (w.heap.size + 1) rfl 116 (opC o) (0, 0) _ ho2 Try.underlying116 rfl (by kernel_rfl) ?_)
    clear t0 t1 t2 t3 t4 tf0 tf1 tf2 tf3 tf4 ht2 ho2
    refine (rPlan_calls sl nd t o w2 (HO.out.ext (e0.out.trans HE2.out)).rows HO.out.few HO.out.each).mono ?_
    rintro e w3 ⟨he3, b, rfl, hbr⟩
    have HE3 := Lib.hid (HE2.out.trans he3)
    have ht3 := HE3.out.at_ HBT.out
    have ho3 := HE3.out.at_ HBO.out
    have hz3 := HE3.out.at_ HBZ.out
    have t0 := blk_cell (i := 0) ht3 (Ext.refl _) rfl; have tf0 := Pack.free_of ht3 0; have t1 := blk_cell (i := 1) ht3 (Ext.refl _) rfl; have tf1 := Pack.free_of ht3 1; have t2 := blk_cell (i := 2) ht3 (Ext.refl _) rfl; have tf2 := Pack.free_of ht3 2; have t3 := blk_cell (i := 3) ht3 (Ext.refl _) rfl; have tf3 := Pack.free_of ht3 3; have t4 := blk_cell (i := 4) ht3 (Ext.refl _) rfl; have tf4 := Pack.free_of ht3 4
    cases b with
    | false =>
      have HC : Hid (rCommitC sl nd t o = 1) := Lib.hid (by
        unfold rCommitC
        rw [if_pos]
        intro hh
        have := hbr.2 hh.2
        cases this)
      clear he3 hbr ht3 ho3
      go_wp2_with (refine RowSt.wpList_put 149 _ _ rfl rfl rfl (w.heap.size + 2) (tabC sl nd t) rfl rfl 149 _ hz3 (by kernel_rfl) rfl (by simp [Value.oneCell']) ?_; intro w8 hb8 hc8)
      refine bodyPost_ret (v := .tuple #[tabV sl nd t, .int .i64 1]) (RowSt.results_cell_tmp (p := 4) (q := 5) rfl _ _ (w.heap.size + 2) 149 _ (0, 0) _ rfl hb8 Try.underlying149 rfl (by kernel_rfl)) rfl ?_
      exact HNO.out _ _ (by decide) HC.out ((e0.out.trans HE3.out).chg hc8 fun i hi => by have hi : i = w.heap.size + 2 := hi; omega)
    | true =>
      have HPL := Lib.hid (hbr.1 rfl)
      have o1 := blk_cell (i := 1) ho3 (Ext.refl _) rfl
      have o2 := blk_cell (i := 2) ho3 (Ext.refl _) rfl
      clear he3 hbr hz3
      go_wp2_with fail
      refine (rFind_calls sl nd t o.name w3 (Sh.ok_ext (e0.out.trans HE3.out) _ _ H.out) hn).mono ?_
      rintro e w4 ⟨rfl, he4⟩
      have HE4 := Lib.hid (HE3.out.trans he4)
      clear he4 t0 t1 t2 t3 t4 tf0 tf1 tf2 tf3 tf4 ht3 ho3 o1 o2
      have ht4 := HE4.out.at_ HBT.out
      have ho4 := HE4.out.at_ HBO.out
      have hz4 := HE4.out.at_ HBZ.out
      have t0 := blk_cell (i := 0) ht4 (Ext.refl _) rfl; have tf0 := Pack.free_of ht4 0; have t1 := blk_cell (i := 1) ht4 (Ext.refl _) rfl; have tf1 := Pack.free_of ht4 1; have t2 := blk_cell (i := 2) ht4 (Ext.refl _) rfl; have tf2 := Pack.free_of ht4 2; have t3 := blk_cell (i := 3) ht4 (Ext.refl _) rfl; have tf3 := Pack.free_of ht4 3; have t4 := blk_cell (i := 4) ht4 (Ext.refl _) rfl; have tf4 := Pack.free_of ht4 4
      have o1 := blk_cell (i := 1) ho4 (Ext.refl _) rfl
      by_cases hfi : 0 ≤ nameAt t.objs o.name
      · have HC : Hid (rCommitC sl nd t o = 7) := Lib.hid (by
          unfold rCommitC
          rw [if_neg (fun hh => hh ⟨HNM.out, HPL.out⟩), if_pos (.inl hfi)])
        have hd1 : decide (0 ≤ nameAt t.objs o.name) = true := decide_eq_true hfi
        clear hfi
        go_wp2_with (refine RowSt.wpList_put 149 _ _ rfl rfl rfl (w.heap.size + 2) (tabC sl nd t) rfl rfl 149 _ hz4 (by kernel_rfl) rfl (by simp [Value.oneCell']) ?_; intro w8 hb8 hc8)
        refine bodyPost_ret (v := .tuple #[tabV sl nd t, .int .i64 7]) (RowSt.results_cell_tmp (p := 4) (q := 5) rfl _ _ (w.heap.size + 2) 149 _ (0, 0) _ rfl hb8 Try.underlying149 rfl (by kernel_rfl)) rfl ?_
        exact HNO.out _ _ (by decide) HC.out ((e0.out.trans HE4.out).chg hc8 fun i hi => by have hi : i = w.heap.size + 2 := hi; omega)
      · have hd1 : decide (0 ≤ nameAt t.objs o.name) = false := decide_eq_false hfi
        go_wp2_with fail
        refine (rNumbered_calls sl nd t o.num w4 (Sh.ok_ext (e0.out.trans HE4.out) _ _ H.out) hn).mono ?_
        rintro e w5 ⟨rfl, he5⟩
        have HE5 := Lib.hid (HE4.out.trans he5)
        have HFI := Lib.hid hfi
        clear he5 t0 t1 t2 t3 t4 tf0 tf1 tf2 tf3 tf4 ht4 ho4 o1 hz4 hd1 hfi
        have ht5 := HE5.out.at_ HBT.out
        have ho5 := HE5.out.at_ HBO.out
        have hz5 := HE5.out.at_ HBZ.out
        have t0 := blk_cell (i := 0) ht5 (Ext.refl _) rfl; have tf0 := Pack.free_of ht5 0; have t1 := blk_cell (i := 1) ht5 (Ext.refl _) rfl; have tf1 := Pack.free_of ht5 1; have t2 := blk_cell (i := 2) ht5 (Ext.refl _) rfl; have tf2 := Pack.free_of ht5 2; have t3 := blk_cell (i := 3) ht5 (Ext.refl _) rfl; have tf3 := Pack.free_of ht5 3; have t4 := blk_cell (i := 4) ht5 (Ext.refl _) rfl; have tf4 := Pack.free_of ht5 4
        have o1 := blk_cell (i := 1) ho5 (Ext.refl _) rfl
        by_cases hnu : 0 ≤ numAt t.objs o.num
        · have HC : Hid (rCommitC sl nd t o = 7) := Lib.hid (by
            unfold rCommitC
            rw [if_neg (fun hh => hh ⟨HNM.out, HPL.out⟩), if_pos (.inr hnu)])
          have hd1 : decide (0 ≤ numAt t.objs o.num) = true := decide_eq_true hnu
          clear hnu
          go_wp2_with (refine RowSt.wpList_put 149 _ _ rfl rfl rfl (w.heap.size + 2) (tabC sl nd t) rfl rfl 149 _ hz5 (by kernel_rfl) rfl (by simp [Value.oneCell']) ?_; intro w8 hb8 hc8)
          refine bodyPost_ret (v := .tuple #[tabV sl nd t, .int .i64 7]) (RowSt.results_cell_tmp (p := 4) (q := 5) rfl _ _ (w.heap.size + 2) 149 _ (0, 0) _ rfl hb8 Try.underlying149 rfl (by kernel_rfl)) rfl ?_
          exact HNO.out _ _ (by decide) HC.out ((e0.out.trans HE5.out).chg hc8 fun i hi => by have hi : i = w.heap.size + 2 := hi; omega)
        · have hd1 : decide (0 ≤ numAt t.objs o.num) = false := decide_eq_false hnu
          have HNU := Lib.hid hnu
          clear hnu
          by_cases hst : o.num ≤ t.ls ∨ t.nx ≤ o.num
          · have HC : Hid (rCommitC sl nd t o = 28) := Lib.hid (by
              unfold rCommitC
              rw [if_neg (fun hh => hh ⟨HNM.out, HPL.out⟩), if_neg (fun hh => by have h1 := HFI.out; have h2 := HNU.out; omega), if_pos hst])
            by_cases hs1 : o.num ≤ t.ls
            · have hd2 : decide (o.num ≤ t.ls) = true := decide_eq_true hs1
              clear hst hs1
              go_wp2_with (refine RowSt.wpList_put 149 _ _ rfl rfl rfl (w.heap.size + 2) (tabC sl nd t) rfl rfl 149 _ hz5 (by kernel_rfl) rfl (by simp [Value.oneCell']) ?_; intro w8 hb8 hc8)
              refine bodyPost_ret (v := .tuple #[tabV sl nd t, .int .i64 28]) (RowSt.results_cell_tmp (p := 4) (q := 5) rfl _ _ (w.heap.size + 2) 149 _ (0, 0) _ rfl hb8 Try.underlying149 rfl (by kernel_rfl)) rfl ?_
              exact HNO.out _ _ (by decide) HC.out ((e0.out.trans HE5.out).chg hc8 fun i hi => by have hi : i = w.heap.size + 2 := hi; omega)
            · have hd2 : decide (o.num ≤ t.ls) = false := decide_eq_false hs1
              have hd3 : decide (t.nx ≤ o.num) = true := decide_eq_true (hst.resolve_left hs1)
              clear hst hs1
              go_wp2_with (refine RowSt.wpList_put 149 _ _ rfl rfl rfl (w.heap.size + 2) (tabC sl nd t) rfl rfl 149 _ hz5 (by kernel_rfl) rfl (by simp [Value.oneCell']) ?_; intro w8 hb8 hc8)
              refine bodyPost_ret (v := .tuple #[tabV sl nd t, .int .i64 28]) (RowSt.results_cell_tmp (p := 4) (q := 5) rfl _ _ (w.heap.size + 2) 149 _ (0, 0) _ rfl hb8 Try.underlying149 rfl (by kernel_rfl)) rfl ?_
              exact HNO.out _ _ (by decide) HC.out ((e0.out.trans HE5.out).chg hc8 fun i hi => by have hi : i = w.heap.size + 2 := hi; omega)
          · have hd2 : decide (o.num ≤ t.ls) = false := decide_eq_false fun hh => hst (.inl hh)
            have hd3 : decide (t.nx ≤ o.num) = false := decide_eq_false fun hh => hst (.inr hh)
            have HST := Lib.hid hst
            clear hst
            by_cases hfu : 64 ≤ t.n
            · have HC : Hid (rCommitC sl nd t o = 20) := Lib.hid (by
                unfold rCommitC
                rw [if_neg (fun hh => hh ⟨HNM.out, HPL.out⟩), if_neg (fun hh => by have h1 := HFI.out; have h2 := HNU.out; omega), if_neg (fun hh => by have h3 := HST.out; omega), if_pos hfu])
              have hd4 : (64 : Int) ≤ ((t.n : Nat) : Int) := by omega
              clear hfu
              go_wp2_with (refine RowSt.wpList_put 149 _ _ rfl rfl rfl (w.heap.size + 2) (tabC sl nd t) rfl rfl 149 _ hz5 (by kernel_rfl) rfl (by simp [Value.oneCell']) ?_; intro w8 hb8 hc8)
              refine bodyPost_ret (v := .tuple #[tabV sl nd t, .int .i64 20]) (RowSt.results_cell_tmp (p := 4) (q := 5) rfl _ _ (w.heap.size + 2) 149 _ (0, 0) _ rfl hb8 Try.underlying149 rfl (by kernel_rfl)) rfl ?_
              exact HNO.out _ _ (by decide) HC.out ((e0.out.trans HE5.out).chg hc8 fun i hi => by have hi : i = w.heap.size + 2 := hi; omega)
            · have HC : Hid (rCommitC sl nd t o = 0) := Lib.hid (by
                unfold rCommitC
                rw [if_neg (fun hh => hh ⟨HNM.out, HPL.out⟩), if_neg (fun hh => by have h1 := HFI.out; have h2 := HNU.out; omega), if_neg (fun hh => by have h3 := HST.out; omega), if_neg hfu])
              have hd4 : ¬ (64 : Int) ≤ ((t.n : Nat) : Int) := by omega
              have HFU := Lib.hid hfu
              clear hfu
              go_upto_region 10 with fail
              have hs6 := set_blk (i := 3) ht5 (.int .u32 o.num)
              have hc6 : Chg (fun i => i = w.heap.size) w5 (w5.setCell ⟨w.heap.size, 3, none⟩ (.int .u32 o.num)) := (Chg.refl (fun i => i = w.heap.size) w5).setCell (p := ⟨w.heap.size, 3, none⟩) rfl _
              have ho6 := hc6.at_ ho5 (by omega)
              have hz6 := hc6.at_ hz5 (by omega)
              have HE6 := Lib.hid ((e0.out.trans HE5.out).chg hc6 fun i hi => by have hi : i = w.heap.size := hi; omega)
              have HBT6 : Hid ((w5.setCell ⟨w.heap.size, 3, none⟩ (.int .u32 o.num)).heap[w.heap.size]? = some (.cells #[.int .i64 sl, .int .i64 nd, .int .u32 t.nx, .int .u32 o.num, .slice t.A t.n t.c] 149 (0, 0))) := Lib.hid (by simpa using hs6)
              have HBO6 := Lib.hid ho6
              have HBZ6 := Lib.hid hz6
              clear hs6 hc6 ho6 hz6 t0 t1 t2 t3 t4 tf0 tf1 tf2 tf3 tf4 ht5 ho5 o1 hz5 hd1 hd2 hd3 hd4
              generalize w5.setCell ⟨w.heap.size, 3, none⟩ (.int .u32 o.num) = w6 at *
              have hln := (sl_len H.out).1
              have hnc := (sl_len H.out).2.1
              have HL := Lib.hid hln
              clear hln
              go_upto_block 0 with fail
              go_cut [6] (fun v wx => v = .int .i64 (posFrom o.name t.objs : Nat) ∧ Hid (Ext w6 wx))
              case first =>
                go_wp2_with fail
                go_loopg [6] t.n (fun g i wr => ∃ a : Nat, a ≤ t.n ∧ g = t.n - a ∧ i = .int .i64 a ∧ Hid (a + posFrom o.name (t.objs.drop a) = posFrom o.name t.objs) ∧ Hid (Ext w6 wr))
                case atStart => exact ⟨0, Nat.zero_le _, rfl, rfl, Lib.hid (by simp), Lib.hid (Ext.refl _)⟩
                case round =>
                  obtain ⟨a, han, rfl, rfl, HN, HX⟩ := hrel
                  by_cases hlt : a < t.n
                  · obtain ⟨ad, ob, hA, hob, hat, _⟩ := obj_at H.out hlt
                    obtain ⟨c0, c1, c2, c3, c4, c5⟩ := (hat.ext HE6.out).ext HX.out
                    have hst := HN.out
                    have hal : a < t.objs.length := by rw [HL.out]; exact hlt
                    rw [List.drop_eq_getElem_cons hal] at hst
                    have hoe : t.objs[a] = ob := by rw [List.getElem?_eq_getElem hal] at hob; exact Option.some.inj hob
                    rw [hoe] at hst
                    rw [posFrom_cons] at hst
                    have HST2 := Lib.hid hst
                    have b4 : wr.cell? ⟨w.heap.size, 4, none⟩ = some (.slice (some ad) t.n t.c) := by rw [← hA]; exact blk_cell (i := 4) HBT6.out HX.out rfl
                    have b2 : wr.cell? ⟨w.heap.size + 1, 2, none⟩ = some (.string o.name) := blk_cell (i := 2) HBO6.out HX.out rfl
                    have hrng : ((a : Nat) : Int) < ((t.n : Nat) : Int) := by omega
                    clear hat hob hst HN hoe hal c0 c2 c3 c4 c5
                    cases hk : Op.bytesLess (name ob).toList o.name.toList with
                    | true =>
                      have hst := HST2.out
                      rw [hk, if_pos rfl] at hst
                      have HS3 : Hid (a + 1 + posFrom o.name (List.drop (a + 1) t.objs) = posFrom o.name t.objs) := Lib.hid (by rw [← hst]; omega)
                      clear hst HST2
                      go_upto_region 11 with fail
                      go_quiet (fail)
                      have HXN := Lib.hid (HX.out.drewN nq)
                      go_wp2_with fail
                      go_roundg (t.n - (a + 1))
                      case measure => omega
                      case rel => exact ⟨a + 1, by omega, rfl, by first | rfl | go_num, HS3, HXN⟩
                    | false =>
                      have hst := HST2.out
                      rw [hk, if_neg Bool.false_ne_true] at hst
                      have HS3 : Hid (posFrom o.name t.objs = a) := Lib.hid (by rw [← hst]; omega)
                      clear hst HST2
                      go_upto_region 11 with fail
                      go_quiet (fail)
                      have HXN := Lib.hid (HX.out.drewN nq)
                      go_wp2_with fail
                      go_meet
                      exact ⟨by rw [HS3.out], HXN⟩
                  · obtain rfl : a = t.n := by omega
                    have hst := HN.out
                    rw [List.drop_of_length_le (by rw [HL.out]; exact Nat.le_refl _)] at hst
                    have HS3 : Hid (posFrom o.name t.objs = t.n) := Lib.hid (by rw [← hst]; rfl)
                    have b4 : wr.cell? ⟨w.heap.size, 4, none⟩ = some (.slice t.A t.n t.c) := blk_cell (i := 4) HBT6.out HX.out rfl
                    clear hst HN
                    go_upto_region 11 with fail
                    go_quiet (fail)
                    have HXN := Lib.hid (HX.out.drewN nq)
                    go_wp2_with fail
                    go_meet
                    exact ⟨by rw [HS3.out], HXN⟩
              case rest =>
                obtain ⟨rfl, HX7⟩ := hcut
                have hpl := posFrom_le o.name t.objs
                rw [HL.out] at hpl
                generalize hpp : posFrom o.name t.objs = p at *
                have HPP := Lib.hid hpp
                clear hpp
                go_upto_region 13 with fail
                have hE7 := HE6.out.trans HX7.out
                have hA0 := (sl_len H.out).2.2.2
                have hcm := (sl_len H.out).2.2.1
                have ht7 := HX7.out.at_ HBT6.out
                have ho7 := HX7.out.at_ HBO6.out
                have y4 : ∀ W, Ext wc.drew W → W.cell? ⟨w.heap.size, 4, none⟩ = some (.slice t.A t.n t.c) := fun W hW => blk_cell (i := 4) ht7 (drew_ext hW) rfl
                have z1 : ∀ W, Ext wc.drew W → W.cell? ⟨w.heap.size + 1, 1, none⟩ = some (.int .u32 o.num) := fun W hW => blk_cell (i := 1) ho7 (drew_ext hW) rfl
                have z2 : ∀ W, Ext wc.drew W → W.cell? ⟨w.heap.size + 1, 2, none⟩ = some (.string o.name) := fun W hW => blk_cell (i := 2) ho7 (drew_ext hW) rfl
                have z3 : ∀ W, Ext wc.drew W → W.cell? ⟨w.heap.size + 1, 3, none⟩ = some (.int .i64 o.l) := fun W hW => blk_cell (i := 3) ho7 (drew_ext hW) rfl
                have z4 : ∀ W, Ext wc.drew W → W.cell? ⟨w.heap.size + 1, 4, none⟩ = some (.int .i64 o.c) := fun W hW => blk_cell (i := 4) ho7 (drew_ext hW) rfl
                have z5 : ∀ W, Ext wc.drew W → W.cell? ⟨w.heap.size + 1, 5, none⟩ = some (.int .i64 o.p) := fun W hW => blk_cell (i := 5) ho7 (drew_ext hW) rfl
                have z6 : ∀ W, Ext wc.drew W → W.cell? ⟨w.heap.size + 1, 6, none⟩ = some (.slice o.A o.n o.cap) := fun W hW => blk_cell (i := 6) ho7 (drew_ext hW) rfl
                have HLEN1 : (cellsL objS (t.objs.take p)).length = p * 6 := by rw [cellsL_length, List.length_take, HL.out, Nat.min_eq_left hpl]; rfl
                have HLEN2 : (cellsL objS (t.objs.drop p)).length = (t.n - p) * 6 := by rw [cellsL_length, List.length_drop, HL.out]; rfl
                have HL1 := Lib.hid HLEN1
                have HL2 := Lib.hid HLEN2
                have HB7 := Lib.hid ht7
                have HE7 := Lib.hid hE7
                have hd0 : Ext w wc.drew := hE7.trans (Ext.drew (Ext.refl _))
                have HD0 := Lib.hid hd0
                clear HLEN1 HLEN2 ht7 ho7 hE7 hd0
                refine Lex.wp_region_r [0, 1, 2, 3, 4, 5, 6, 7, 8, 9, 10, 11, 12, 13, 14, 15, 16, 17, 18, 19, 20, 21, 22] [23] [(5, 0), (16, 5), (21, 16)] [(0, Lex.rowR wc.drew 234 6 0 []), (5, Lex.rowR wc.drew 234 6 p (cellsL objS (t.objs.take p))), (15, Lex.rowR wc.drew 234 6 1 (objC (obOf o))), (16, Lex.rowR wc.drew 234 6 (p + 1) (cellsL objS (t.objs.take p) ++ objC (obOf o))), (21, Lex.rowR wc.drew 234 6 (t.n + 1) (cellsL objS (t.objs.take p) ++ objC (obOf o) ++ cellsL objS (t.objs.drop p)))] (by kernel_rfl) (by kernel_rfl) (by kernel_rfl) (by repeat (first | exact Lex.ok_nilR | refine Lex.ok_consR (by first | exact Lex.rowR_ok | exact Tbl.rdR_ok | assumption) ?_)) ?_; simp only [Lex.pick, List.getElem?_cons_succ, List.getElem?_cons_zero, List.map_cons, List.map_nil]
                refine Lex.lexR_loose (by rfl) (by rfl) (fun W hW hAP => ?_) ?_
                · have hE := hW.1
                  clear hW
                  go_simp
                  exact Lex.rowR_new hE.size (Ext.new _ _) (own_empty (at_new _ _) (Nat.le_refl _))
                rintro v fx ⟨A0, c0, rfl⟩
                simp only [Act.put, List.setIfInBounds_toArray, List.set_cons_zero, List.set_cons_succ]
                repeat (first | (refine Lex.lexR_skip (by rfl) ?_; simp only [Act.put, List.setIfInBounds_toArray, List.set_cons_zero, List.set_cons_succ]) | (refine Lex.lexR_still (by rfl) (by rfl) ?_; apply Exists.intro; refine ⟨fun W hW => ?_, ?_⟩; (have hE := hW; have hE2 := Lex.ext_drew hE; clear hW; go_simp; try with_reducible rfl); simp only [Act.put, List.setIfInBounds_toArray, List.set_cons_zero, List.set_cons_succ]))
                refine Lex.lexR_still (by rfl) (by rfl) ⟨.slice t.A p t.c, fun W hW => ?_, ?_⟩
                · have hE := hW
                  clear hW
                  have q1 : ((p : Nat) : Int) ≤ ((t.c : Nat) : Int) := by omega
                  cases hAA : t.A with
                  | none =>
                    have h1 := hA0 hAA
                    have h2 : p = 0 := by omega
                    subst h2
                    rw [h1]
                    go_simp
                  | some ad =>
                    go_simp
                simp only [Act.put, List.setIfInBounds_toArray, List.set_cons_zero, List.set_cons_succ]
                refine Lex.lexR_loose (by rfl) (by rfl) (fun W hW hAP => ?_) ?_
                · obtain ⟨hown, hfo⟩ := ((hW.2 0 (by kernel_rfl) rfl).2 rfl) _ _ rfl
                  have hE := hW.1
                  clear hW
                  refine Lex.app_looseR (.tmp 70) (.tmp 74) _ rfl 234 _ 6 72 Try.underlying147 infoRObj rfl (by decide) (by decide) rfl hown (fun i hi => ⟨0, by simp, .inr ⟨rfl, hfo i hi⟩⟩) rfl HL1.out (fun h => by have := hA0 h; omega) (fun ad ha j u hu => (HD0.out.trans hE).cell_ (ok_take H.out (by decide) p ad ha j u hu)) (cellsL_one_ _ _) (by omega) hE.size (Nat.zero_add _) rfl
                rintro v fx ⟨A1, c1, rfl⟩
                simp only [Act.put, List.setIfInBounds_toArray, List.set_cons_zero, List.set_cons_succ]
                repeat (first | (refine Lex.lexR_skip (by rfl) ?_; simp only [Act.put, List.setIfInBounds_toArray, List.set_cons_zero, List.set_cons_succ]) | (refine Lex.lexR_still (by rfl) (by rfl) ?_; apply Exists.intro; refine ⟨fun W hW => ?_, ?_⟩; (have hE := hW; have hE2 := Lex.ext_drew hE; clear hW; go_simp; try with_reducible rfl); simp only [Act.put, List.setIfInBounds_toArray, List.set_cons_zero, List.set_cons_succ]))
                refine Lex.lexR_loose (by rfl) (by rfl) (fun W hW hAP => ?_) ?_
                · have hE := hW.1
                  clear hW
                  go_simp
                  exact Lex.rowR_new hE.size (Ext.new _ _) (Lex.own_lit (by simp) (by decide))
                rintro v fx ⟨A2, c2, rfl⟩
                simp only [Act.put, List.setIfInBounds_toArray, List.set_cons_zero, List.set_cons_succ]
                refine Lex.lexR_loose (by rfl) (by rfl) (fun W hW hAP => ?_) ?_
                · obtain ⟨hown, hfo⟩ := ((hW.2 5 (by kernel_rfl) rfl).1.2 rfl) _ _ rfl
                  obtain ⟨hlit, _⟩ := ((hW.2 15 (by kernel_rfl) rfl).2 rfl) _ _ rfl
                  have hE := hW.1
                  clear hW
                  refine Lex.app_looseR (.tmp 75) (.tmp 85) _ rfl 234 _ 6 72 Try.underlying147 infoRObj rfl (by decide) (by decide) rfl hown (fun i hi => ⟨5, by simp, .inl (.inr ⟨rfl, hfo i hi⟩)⟩) rfl rfl (fun h => by subst h; have := hlit.cap.2 rfl; have := hlit.cap.1; omega) (Lex.own_cells hlit) (by simp [Value.oneCell']) (by omega) hE.size rfl rfl
                rintro v fx ⟨A3, c3, rfl⟩
                simp only [Act.put, List.setIfInBounds_toArray, List.set_cons_zero, List.set_cons_succ]
                iterate 3 (first | (refine Lex.lexR_skip (by rfl) ?_; simp only [Act.put, List.setIfInBounds_toArray, List.set_cons_zero, List.set_cons_succ]) | (refine Lex.lexR_still (by rfl) (by rfl) ?_; apply Exists.intro; refine ⟨fun W hW => ?_, ?_⟩; (have hE := hW; have hE2 := Lex.ext_drew hE; clear hW; go_simp; try with_reducible rfl); simp only [Act.put, List.setIfInBounds_toArray, List.set_cons_zero, List.set_cons_succ]))
                refine Lex.lexR_still (by rfl) (by rfl) ⟨.slice (cutA t.A p t.c 6) (t.n - p) (t.c - p), fun W hW => ?_, ?_⟩
                · have hE := hW
                  clear hW
                  have q1 : ((p : Nat) : Int) ≤ ((t.n : Nat) : Int) := by omega
                  have q2 : ((t.n : Nat) : Int) ≤ ((t.c : Nat) : Int) := by omega
                  unfold cutA
                  cases hAA : t.A with
                  | none =>
                    have h1 := hA0 hAA
                    have h2 : p = 0 := by omega
                    have h3 : t.n = 0 := by omega
                    subst h2
                    rw [h1, h3]
                    go_simp
                  | some ad =>
                    by_cases hpc : p = t.c
                    · go_simp
                      exact fun h => absurd h (by omega)
                    · go_simp
                      exact fun h => absurd h.symm hpc
                simp only [Act.put, List.setIfInBounds_toArray, List.set_cons_zero, List.set_cons_succ]
                refine Lex.lexR_loose (by rfl) (by rfl) (fun W hW hAP => ?_) ?_
                · obtain ⟨hown, hfo⟩ := ((hW.2 16 (by kernel_rfl) rfl).2 rfl) _ _ rfl
                  have hE := hW.1
                  clear hW
                  refine Lex.app_looseR (.tmp 86) (.tmp 90) _ rfl 234 _ 6 72 Try.underlying147 infoRObj rfl (by decide) (by decide) rfl hown (fun i hi => ⟨16, by simp, .inr ⟨rfl, hfo i hi⟩⟩) rfl HL2.out (fun h => by have := hA0 (cutA_none h); omega) (fun ad ha j u hu => (HD0.out.trans hE).cell_ (ok_drop H.out (by decide) p ad ha j u hu)) (cellsL_one_ _ _) (by omega) hE.size (by omega) rfl
                rintro v fx ⟨A4, c4, rfl⟩
                simp only [Act.put, List.setIfInBounds_toArray, List.set_cons_zero, List.set_cons_succ]
                repeat (first | (refine Lex.lexR_skip (by rfl) ?_; simp only [Act.put, List.setIfInBounds_toArray, List.set_cons_zero, List.set_cons_succ]) | (refine Lex.lexR_still (by rfl) (by rfl) ?_; apply Exists.intro; refine ⟨fun W hW => ?_, ?_⟩; (have hE := hW; have hE2 := Lex.ext_drew hE; clear hW; go_simp; try with_reducible rfl); simp only [Act.put, List.setIfInBounds_toArray, List.set_cons_zero, List.set_cons_succ]))
                refine Lex.lexR_nil (fun W hW hF => ?_)
                have HOWN := Lib.hid (((hF 21 rfl).2 rfl) _ _ rfl).1
                have HEW := Lib.hid (Lex.ext_drew hW)
                clear hW hF y4 z1 z2 z3 z4 z5 z6
                have hbw := HEW.out.at_ HB7.out
                have hzw := HEW.out.at_ (HX7.out.at_ HBZ6.out)
                have hs8 := set_blk (i := 4) hbw (.slice A4 (t.n + 1) c4)
                have hc8 : Chg (fun i => i = w.heap.size) W (W.setCell ⟨w.heap.size, 4, none⟩ (.slice A4 (t.n + 1) c4)) := (Chg.refl (fun i => i = w.heap.size) W).setCell (p := ⟨w.heap.size, 4, none⟩) rfl _
                have HZ8 := Lib.hid (hc8.at_ hzw (by omega))
                have hwc : w.heap.size < wc.heap.size := Pack.lt_of_at HB7.out
                have HO8 : Hid (New wc.drew (W.setCell ⟨w.heap.size, 4, none⟩ (.slice A4 (t.n + 1) c4)) 234 6 A4 (t.n + 1) c4 (cellsL objS (t.objs.take p) ++ objC (obOf o) ++ cellsL objS (t.objs.drop p))) := Lib.hid (HOWN.out.chg hc8 fun i (hi : wc.heap.size ≤ i) k => by omega)
                have hb8' : (W.setCell ⟨w.heap.size, 4, none⟩ (.slice A4 (t.n + 1) c4)).heap[w.heap.size]? = some (.cells (tabC sl nd ⟨t.nx, o.num, A4, t.n + 1, c4, t.objs.take p ++ [obOf o] ++ t.objs.drop p⟩) 149 (0, 0)) := by simpa using hs8
                have HE8 := Lib.hid ((HE7.out.trans HEW.out).chg hc8 fun i hi => by have hi : i = w.heap.size := hi; omega)
                have HB8 := Lib.hid hb8'
                have f4 := Pack.free_of hbw 4
                have g4 := blk_cell (i := 4) hbw (Ext.refl _) rfl
                clear hs8 hc8 hzw hb8'
                go_wp2_with fail
                try simp only [Lex.onlyN]
                go_upto_region 14 with fail
                generalize W.setCell ⟨w.heap.size, 4, none⟩ (.slice A4 (t.n + 1) c4) = w8 at *
                have hb8 := HB8.out
                have t0 := blk_cell (i := 0) hb8 (Ext.refl _) rfl; have tf0 := Pack.free_of hb8 0; have t1 := blk_cell (i := 1) hb8 (Ext.refl _) rfl; have tf1 := Pack.free_of hb8 1; have t2 := blk_cell (i := 2) hb8 (Ext.refl _) rfl; have tf2 := Pack.free_of hb8 2; have t3 := blk_cell (i := 3) hb8 (Ext.refl _) rfl; have tf3 := Pack.free_of hb8 3; have t4 := blk_cell (i := 4) hb8 (Ext.refl _) rfl; have tf4 := Pack.free_of hb8 4
                clear f4 g4 hbw
                go_wp2_with (refine RowSt.wpList_put 149 _ _ rfl rfl rfl (w.heap.size + 2) (tabC sl nd ⟨t.nx, o.num, A4, t.n + 1, c4, t.objs.take p ++ [obOf o] ++ t.objs.drop p⟩) rfl rfl 149 _ HZ8.out (by kernel_rfl) rfl (by simp [Value.oneCell']) ?_; intro w9 hb9 hc9)
                refine bodyPost_ret (v := .tuple #[tabV sl nd ⟨t.nx, o.num, A4, t.n + 1, c4, t.objs.take p ++ [obOf o] ++ t.objs.drop p⟩, .int .i64 0]) (RowSt.results_cell_tmp (p := 4) (q := 5) rfl _ _ (w.heap.size + 2) 149 _ (0, 0) _ rfl hb9 Try.underlying149 rfl (by kernel_rfl)) rfl ?_
                rw [HQ.out, HC.out]
                have HE9 : Ext w w9 := HE8.out.chg hc9 fun i hi => by have hi : i = w.heap.size + 2 := hi; omega
                have hwc2 : w.heap.size + 2 < wc.heap.size := Pack.lt_of_at (HX7.out.at_ HBZ6.out)
                have hrow : New wc.drew w9 234 6 A4 (t.n + 1) c4 (cellsL objS (t.objs.take p ++ [obOf o] ++ t.objs.drop p)) := by
                  have h1 := HO8.out.chg hc9 fun i (hi : wc.heap.size ≤ i) k => by have k : i = w.heap.size + 2 := k; omega
                  have e1 : cellsL objS [obOf o] = objC (obOf o) := List.append_nil _
                  rw [cellsL_app, cellsL_app, e1]
                  exact h1
                refine ⟨_, rfl, HE9, fun WK hW0 hWk => ?_, fun h => absurd rfl h, fun _ => ⟨HNM.out, HPL.out, rfl, rfl, by rw [show posFrom o.name t.objs = p from HPP.out]⟩⟩
                have hrowK := keepE hrow (by decide) HE7.out.size hWk
                refine ok_own (W := WK) hrowK (by decide) (by simp [HL.out]; omega) (fun x hx => ?_) (fun a v _ hc => hc) (own_max hrow)
                rcases List.mem_append.1 hx with hx | hx
                · rcases List.mem_append.1 hx with hx | hx
                  · obtain ⟨i, hi, hix⟩ := List.getElem_of_mem (List.mem_of_mem_take hx)
                    exact Sh.ok_le hW0 _ _ (sl_each H0.out (i := i) (by rw [List.getElem?_eq_getElem hi, hix]))
                  · have hx : x = obOf o := by simpa using hx
                    subst hx
                    exact Sh.ok_le hW0 _ _ (obOf_ok HO0.out)
                · obtain ⟨i, hi, hix⟩ := List.getElem_of_mem (List.mem_of_mem_drop hx)
                  exact Sh.ok_le hW0 _ _ (sl_each H0.out (i := i) (by rw [List.getElem?_eq_getElem hi, hix]))
end Go.Proofs.Ytfhgjopoohfhjaa.Tbl
