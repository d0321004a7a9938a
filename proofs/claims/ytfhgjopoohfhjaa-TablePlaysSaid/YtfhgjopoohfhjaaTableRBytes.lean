/- A table's bytes: the document's; walked. -/
import Derived.Test.YtfhgjopoohfhjaaTableBytes
namespace Go.Proofs.Ytfhgjopoohfhjaa.Tbl
open Go.RowKit Base Step Vec Shape Erase
theorem le_wf (k : Nat) (n : Int) : ∀ x ∈ Le.le k n, (Lit.int .u8 x).wf = true := fun x hx => by have := Le.le_u8 _ _ x hx; exact u8_wf this.1 this.2
theorem textB_len (s : ByteArray) : (textB s).length = 2 + s.size := by simp [textB, Le.le_length, bytesI_len]
set_option maxRecDepth 100000 in
set_option maxHeartbeats 1000000 in
theorem rtext_calls (A : Option Addr) (m c : Nat) (ys : List Int) (w : World) (hr : Rd w .u8 A m ys) (hm : m ≤ 1000) :
    Calls Try.prog 195 #[.slice A m c] w fun e w' => ∃ A' c', e = .returned (.slice A' (2 + m) c') ∧ New w w' 5 1 A' (2 + m) c' (nums .u8 (Le.le 2 m ++ ys)) ∧ Ext w w' := by
  have HR := Lib.hid hr
  have W0 : IntKind.u64.wrap ((m : Nat) : Int) = ((m : Nat) : Int) := IntWalk.u64_in _ (by omega)
  clear hr
  go_enter Try.func195, Try.ntmps195
  go_wp2_with fail
  refine (Ref01.num_calls ((m : Nat) : Int) 2 w (by decide) (by decide) (by omega) (by omega)).mono ?_
  rintro e w1 ⟨A1, c1, rfl, ho1, hb1⟩
  have HB1 := Lib.hid hb1
  have HR1 := Lib.hid (HR.out.below hb1)
  have HR2 := Lib.hid (ho1.rd (le_wf 2 m))
  clear ho1 hb1
  have hfl : Ref01.flat [(A1, 2, c1, Le.le 2 ((m : Nat) : Int)), (A, m, c, ys)] = Le.le 2 ((m : Nat) : Int) ++ ys := by simp [Ref01.flat]
  have hlen : (Le.le 2 ((m : Nat) : Int) ++ ys).length = 2 + m := by rw [List.length_append, Le.le_length, HR.out.len]
  go_wp2_with fail
  refine (Ref01.join_calls _ 2 2 [(A1, 2, c1, Le.le 2 ((m : Nat) : Int)), (A, m, c, ys)] _ (Ref01.rdrows_new w1 _ [(A1, 2, c1, Le.le 2 ((m : Nat) : Int)), (A, m, c, ys)] _ rfl (by
    intro r hr
    simp only [List.mem_cons, List.not_mem_nil, or_false] at hr
    rcases hr with rfl | rfl
    · exact HR2.out
    · exact HR1.out)) (by omega) (by rw [hfl, hlen]; omega)).mono ?_
  rw [hfl, hlen]
  rintro e w2 ⟨A2, c2, rfl, ho2, hb2⟩
  have HO2 := Lib.hid ho2
  have HB2 := Lib.hid hb2
  clear ho2 hb2 hfl hlen
  go_wp2_with fail
  go_ret
  have hE : Ext w (w1.alloc (.cells #[.slice A1 2 c1, .slice A m c] 22)) := Ext.trans HB1.out (Ext.new w1 _)
  exact ⟨A2, c2, rfl, HO2.out.mono fun i _ hi => Nat.le_trans hE.size hi, hE.trans HB2.out⟩
theorem textB_wf (s : ByteArray) : ∀ x ∈ textB s, (Lit.int .u8 x).wf = true := fun x hx => (List.mem_append.1 hx).elim (le_wf 2 _ x) (bytesI_wf _ x)
theorem flat_wf {α : Type} {f : α → List Int} (h : ∀ a, ∀ x ∈ f a, (Lit.int .u8 x).wf = true) (l : List α) : ∀ x ∈ l.flatMap f, (Lit.int .u8 x).wf = true := fun x hx => by
  obtain ⟨a, _, hx⟩ := List.mem_flatMap.1 hx
  exact h a x hx
theorem app_wf {a b : List Int} (ha : ∀ x ∈ a, (Lit.int .u8 x).wf = true) (hb : ∀ x ∈ b, (Lit.int .u8 x).wf = true) : ∀ x ∈ a ++ b, (Lit.int .u8 x).wf = true := fun x hx => (List.mem_append.1 hx).elim (ha x) (hb x)
theorem tableB_wf (t : Tb) (l : List Obj) {ys : List Int} (hy : ys = hdrB t) : ∀ x ∈ ys ++ l.flatMap wholeB, (Lit.int .u8 x).wf = true := by
  subst hy
  refine app_wf (app_wf (app_wf (le_wf _ _) (le_wf _ _)) (le_wf _ _)) (flat_wf (fun o => ?_) l)
  exact app_wf (app_wf (app_wf (app_wf (app_wf (le_wf _ _) (textB_wf _)) (le_wf _ _)) (le_wf _ _)) (le_wf _ _)) (flat_wf (fun r => flat_wf (fun p => app_wf (le_wf _ _) (le_wf _ _)) _) _)
theorem rdrows_at {W : World} {g : Nat} {rows : List (Option Addr × Nat × Nat × List Int)} {C : Array Value} {e : TypeId} {fr : Nat × Nat} (hb : W.heap[g]? = some (.cells C e fr)) (hC : C.toList = rows.map fun r => .slice r.1 r.2.1 r.2.2.1) (h : ∀ r ∈ rows, Rd W .u8 r.1 r.2.1 r.2.2.2) : Ref01.RdRows W (some ⟨g, 0, none⟩) rows.length rows :=
  ⟨rfl, fun _ => ⟨_, rfl, fun j r hr => ⟨World.news_of_block hb j _ (by rw [hC]; simp [hr]), h r (List.mem_of_getElem? hr)⟩⟩⟩
set_option maxRecDepth 100000 in
set_option maxHeartbeats 8000000 in
theorem rBytes_calls (sl nd : Nat) (t : Tb) (w : World) (h : Doc w t) (hf : ∀ o ∈ t.objs, FineO nd sl o) (h64 : t.objs.length ≤ 64) (hsl : sl ≤ 24) (hnd : nd ≤ 32) (hx0 : 0 ≤ t.nx) (hx1 : t.nx ≤ 4294967295) (hl0 : 0 ≤ t.ls) (hl1 : t.ls ≤ 4294967295) :
    Calls Try.prog 144 #[tabV sl nd t] w fun e w' => Ext w w' ∧ ∃ A c, e = .returned (.slice A (tableB t).length c) ∧ New w w' 5 1 A (tableB t).length c (nums .u8 (tableB t)) := by
  obtain ⟨nx, ls, A, n, c, objs⟩ := t
  have h : (Sh.sl objS).ok w (A, n, c, objs) := h
  have hx0 : 0 ≤ nx := hx0
  have hx1 : nx ≤ 4294967295 := hx1
  have hl0 : 0 ≤ ls := hl0
  have hl1 : ls ≤ 4294967295 := hl1
  have H := Lib.hid h
  have HF : Hid (∀ o ∈ objs, FineO nd sl o) := Lib.hid hf
  obtain ⟨hl, hnc, _, _⟩ := sl_len h
  have hn64 : n ≤ 64 := by have h64 : objs.length ≤ 64 := h64; omega
  have HL := Lib.hid hl
  have HROWS := Lib.hid (objs_rows h)
  have e0 := Ext.new w (.cells #[.int .i64 sl, .int .i64 nd, .int .u32 nx, .int .u32 ls, .slice A n c] 149)
  have hb := at_new w (.cells #[.int .i64 sl, .int .i64 nd, .int .u32 nx, .int .u32 ls, .slice A n c] 149)
  clear h hf hl h64
  go_enter Try.func144, Try.ntmps144
  go_upto_region 1 with fail
  generalize w.alloc (.cells #[.int .i64 sl, .int .i64 nd, .int .u32 nx, .int .u32 ls, .slice A n c] 149) = w1 at *
  have HB := Lib.hid hb
  have HE1 := Lib.hid e0
  have z2 : ∀ W, Ext w1.drew W → W.cell? ⟨w.heap.size, 2, none⟩ = some (.int .u32 nx) := fun W hW => blk_cell (i := 2) hb (drew_ext hW) rfl
  have z3 : ∀ W, Ext w1.drew W → W.cell? ⟨w.heap.size, 3, none⟩ = some (.int .u32 ls) := fun W hW => blk_cell (i := 3) hb (drew_ext hW) rfl
  have z4 : ∀ W, Ext w1.drew W → W.cell? ⟨w.heap.size, 4, none⟩ = some (.slice A n c) := fun W hW => blk_cell (i := 4) hb (drew_ext hW) rfl
  have W0 : IntKind.u64.wrap nx = nx := IntWalk.u64_in _ (by omega)
  have W1 : IntKind.u64.wrap ls = ls := IntWalk.u64_in _ (by omega)
  have W2 : IntKind.u8.wrap ((n : Nat) : Int) = ((n : Nat) : Int) := IntWalk.u8_in _ (by omega)
  have hle1 : Le.le 1 ((n : Nat) : Int) = [((n : Nat) : Int)] := by simp [Le.le]; omega
  clear hb e0
  refine Lex.wp_region_r [0, 1, 2, 3, 4, 5, 6, 7, 8, 9, 10, 11, 12, 13, 14, 15] [] [(8, 3), (14, 8)] [(3, Lex.rowR w1.drew 5 1 4 (nums .u8 (Le.le 4 nx))), (7, Lex.rowR w1.drew 5 1 4 (nums .u8 (Le.le 4 ls))), (8, Lex.rowR w1.drew 5 1 8 (nums .u8 (Le.le 4 nx) ++ nums .u8 (Le.le 4 ls))), (13, Lex.rowR w1.drew 5 1 1 [.int .u8 ((n : Nat) : Int)]), (14, Lex.rowR w1.drew 5 1 9 (nums .u8 (hdrB ⟨nx, ls, A, n, c, objs⟩)))] (by kernel_rfl) (by kernel_rfl) (by kernel_rfl) (by repeat (first | exact Lex.ok_nilR | refine Lex.ok_consR (by first | exact Lex.rowR_ok | exact Tbl.rdR_ok | assumption) ?_)) ?_; simp only [Lex.pick, List.getElem?_cons_succ, List.getElem?_cons_zero, List.map_cons, List.map_nil]
  repeat (first | (refine Lex.lexR_skip (by rfl) ?_; simp only [Act.put, List.setIfInBounds_toArray, List.set_cons_zero, List.set_cons_succ]) | (refine Lex.lexR_still (by rfl) (by rfl) ?_; apply Exists.intro; refine ⟨fun W hW => ?_, ?_⟩; (have hE := hW; have hE2 := Lex.ext_drew hE; clear hW; go_simp; try with_reducible rfl); simp only [Act.put, List.setIfInBounds_toArray, List.set_cons_zero, List.set_cons_succ]))
  refine Lex.lexR_loose (by rfl) (by rfl) (fun W hW hAP => ?_) ?_
  · have hE := hW.1
    clear hW hAP
    go_simp
    refine (Ref01.num_calls nx 4 W (by decide) (by decide) hx0 (by omega)).mono ?_
    rintro e w' ⟨A', c', rfl, ho, hb⟩
    exact ⟨_, rfl, Lex.rowR_new hE.size hb ho⟩
  rintro v f1 ⟨A1, c1, rfl⟩
  simp only [Act.put, List.setIfInBounds_toArray, List.set_cons_zero, List.set_cons_succ]
  repeat (first | (refine Lex.lexR_skip (by rfl) ?_; simp only [Act.put, List.setIfInBounds_toArray, List.set_cons_zero, List.set_cons_succ]) | (refine Lex.lexR_still (by rfl) (by rfl) ?_; apply Exists.intro; refine ⟨fun W hW => ?_, ?_⟩; (have hE := hW; have hE2 := Lex.ext_drew hE; clear hW; go_simp; try with_reducible rfl); simp only [Act.put, List.setIfInBounds_toArray, List.set_cons_zero, List.set_cons_succ]))
  refine Lex.lexR_loose (by rfl) (by rfl) (fun W hW hAP => ?_) ?_
  · have hE := hW.1
    clear hW hAP
    go_simp
    refine (Ref01.num_calls ls 4 W (by decide) (by decide) hl0 (by omega)).mono ?_
    rintro e w' ⟨A', c', rfl, ho, hb⟩
    exact ⟨_, rfl, Lex.rowR_new hE.size hb ho⟩
  rintro v f2 ⟨A2, c2, rfl⟩
  simp only [Act.put, List.setIfInBounds_toArray, List.set_cons_zero, List.set_cons_succ]
  refine Lex.lexR_loose (by rfl) (by rfl) (fun W hW hAP => ?_) ?_
  · obtain ⟨hown, hfo⟩ := ((hW.2 3 (by kernel_rfl) rfl).1.2 rfl) _ _ rfl
    obtain ⟨hrd, _⟩ := ((hW.2 7 (by kernel_rfl) rfl).2 rfl) _ _ rfl
    have hE := hW.1
    clear hW hAP
    show Lex.looseR _ (Lex.CF _ _ _) _ (Lex.rowR w1.drew 5 1 8 (nums .u8 (Le.le 4 nx) ++ nums .u8 (Le.le 4 ls))) _
    refine Lex.app_looseR (n := 4) (m := 4) (.tmp 11) (.tmp 15) _ rfl 5 _ 1 1 Try.underlying22 Pack.info_u8 rfl (by decide) (by decide) rfl hown ?_ rfl (by simp [nums, Le.le_length]) (fun h => by subst h; have := hrd.cap.2 rfl; have := hrd.cap.1; omega) (Lex.own_cells hrd) (fun u hu => by obtain ⟨x, _, rfl⟩ := List.mem_map.1 hu; rfl) (by omega) hE.size rfl rfl
    exact fun i hi => ⟨3, by simp, .inl (.inr ⟨rfl, hfo i hi⟩)⟩
  rintro v f3 ⟨A3, c3, rfl⟩
  simp only [Act.put, List.setIfInBounds_toArray, List.set_cons_zero, List.set_cons_succ]
  repeat (first | (refine Lex.lexR_skip (by rfl) ?_; simp only [Act.put, List.setIfInBounds_toArray, List.set_cons_zero, List.set_cons_succ]) | (refine Lex.lexR_still (by rfl) (by rfl) ?_; apply Exists.intro; refine ⟨fun W hW => ?_, ?_⟩; (have hE := hW; have hE2 := Lex.ext_drew hE; clear hW; go_simp; try with_reducible rfl); simp only [Act.put, List.setIfInBounds_toArray, List.set_cons_zero, List.set_cons_succ]))
  refine Lex.lexR_loose (by rfl) (by rfl) (fun W hW hAP => ?_) ?_
  · have hE := hW.1
    clear hW hAP
    go_simp
    exact Lex.rowR_new hE.size (Ext.new _ _) (Lex.own_lit (by simp) (by decide))
  rintro v f4 ⟨A4, c4, rfl⟩
  simp only [Act.put, List.setIfInBounds_toArray, List.set_cons_zero, List.set_cons_succ]
  refine Lex.lexR_loose (by rfl) (by rfl) (fun W hW hAP => ?_) ?_
  · obtain ⟨hown, hfo⟩ := ((hW.2 8 (by kernel_rfl) rfl).1.2 rfl) _ _ rfl
    obtain ⟨hrd, _⟩ := ((hW.2 13 (by kernel_rfl) rfl).2 rfl) _ _ rfl
    have hE := hW.1
    clear hW hAP
    show Lex.looseR _ (Lex.CF _ _ _) _ (Lex.rowR w1.drew 5 1 9 (nums .u8 (hdrB ⟨nx, ls, A, n, c, objs⟩))) _
    refine Lex.app_looseR (n := 8) (m := 1) (xs := nums .u8 (Le.le 4 nx) ++ nums .u8 (Le.le 4 ls)) (ys := nums .u8 (hdrB ⟨nx, ls, A, n, c, objs⟩)) (.tmp 16) (.tmp 21) _ rfl 5 _ 1 1 Try.underlying22 Pack.info_u8 rfl (by decide) (by decide) rfl hown ?_ rfl rfl (fun h => by subst h; have := hrd.cap.2 rfl; have := hrd.cap.1; omega) (Lex.own_cells hrd) (by simp [Value.oneCell']) (by omega) hE.size rfl (by unfold hdrB; rw [hle1]; simp [nums])
    exact fun i hi => ⟨8, by simp, .inl (.inr ⟨rfl, hfo i hi⟩)⟩
  rintro v f5 ⟨A5, c5, rfl⟩
  simp only [Act.put, List.setIfInBounds_toArray, List.set_cons_zero, List.set_cons_succ]
  repeat (first | (refine Lex.lexR_skip (by rfl) ?_; simp only [Act.put, List.setIfInBounds_toArray, List.set_cons_zero, List.set_cons_succ]) | (refine Lex.lexR_still (by rfl) (by rfl) ?_; apply Exists.intro; refine ⟨fun W hW => ?_, ?_⟩; (have hE := hW; have hE2 := Lex.ext_drew hE; clear hW; go_simp; try with_reducible rfl); simp only [Act.put, List.setIfInBounds_toArray, List.set_cons_zero, List.set_cons_succ]))
  refine Lex.lexR_nil (fun W hW hF => ?_)
  have HX5 := Lib.hid (Lex.ext_drew hW)
  have HO5 := Lib.hid (Own.mono (((hF 14 rfl).2 rfl) _ _ rfl).1 fun i _ hi => (show w1.heap.size ≤ i from hi))
  clear hW hF z2 z3 z4
  refine Lex.onlyN_intro ?_
  generalize hG : w.heap.size = g at *
  obtain ⟨X, hX⟩ : ∃ X, X = hdrB ⟨nx, ls, A, n, c, objs⟩ := ⟨_, rfl⟩
  rw [← hX] at HO5
  have hXl : X.length = 9 := by rw [hX]; simp [hdrB, Le.le_length]
  have HX := Lib.hid hX
  clear hX
  go_wp2_with fail
  go_loopg [3, 4] n (fun q o i wr => ∃ (k : Nat) (xs : List Int) (D : Option Addr) (d dc : Nat), k ≤ n ∧ q = n - k ∧ i = .int .i64 (k : Nat) ∧ o = .slice D d dc ∧ xs.length = d ∧ d ≤ 10 + k * 4000 ∧ Hid (xs = X ++ (objs.take k).flatMap wholeB) ∧ Hid (Ext w1 wr) ∧ Hid (Own wr (fun i => w1.heap.size ≤ i) 5 1 (.slice D d dc) d (nums .u8 xs)))
  case atStart => exact ⟨0, _, _, _, _, Nat.zero_le _, rfl, rfl, rfl, hXl, by omega, Lib.hid (by simp), HX5, HO5⟩
  case round =>
    clear HX5 HO5
    obtain ⟨k, xs, D, d, dc, hk, rfl, rfl, rfl, hxl, hdl, HXS, HX5, HO5⟩ := hrel
    have hE1 := HE1.out.trans HX5.out
    have y4 : wr.cell? ⟨g, 4, none⟩ = some (.slice A n c) := blk_cell (i := 4) HB.out HX5.out rfl
    by_cases hlt2 : k < n
    · obtain ⟨ad, o, rfl, ho, hcell, hok⟩ := obj_at H.out hlt2
      obtain ⟨c0, c1, c2, c3, c4, c5⟩ := hcell.ext hE1
      have HOB := Lib.hid ho
      have hom := List.mem_of_getElem? ho
      have HFO := Lib.hid (HF.out o hom)
      have hpl := (obj_ok hok).2.2.2
      have HPL := Lib.hid hpl
      have hol := objB_len HFO.out
      have hpn : pN o ≤ 32 := by have := HFO.out.rws.1; have := HFO.out.rws.2; omega
      have hpc : pN o ≤ pC o := (sl_len hpl).2.1
      have hki : ((k : Nat) : Int) < ((n : Nat) : Int) := by omega
      have HRL := Lib.hid (rowB_len HFO.out hsl (HROWS.out o hom))
      have hgs : w1.heap.size ≤ wr.heap.size := HX5.out.size
      have HE2 := Lib.hid hE1
      clear hcell hok ho hom hpl hE1
      go_upto_region 6 with (refine RowSt.wpList_put 234 _ _ rfl rfl rfl wr.heap.size #[.int .u32 (num o), .string (name o), .int .i64 (pl1 o), .int .i64 (pl2 o), .int .i64 (pl3 o), .slice (pA o) (pN o) (pC o)] rfl rfl 234 _ (at_new wr _) (by kernel_rfl) rfl (by simp [Value.oneCell']) ?_; intro w9 hb9 hc9)
      have hE9 : Ext wr w9 := (Ext.new wr _).chg hc9 fun i hi => by have hi : i = wr.heap.size := hi; omega
      have HX9 := Lib.hid (HX5.out.trans hE9)
      have HO9 := Lib.hid (Own.extNew HO5.out hE9)
      have HR9 : Hid (Rd w9 .u8 D d xs) := Lib.hid (HO9.out.rd (by rw [HXS.out, HX.out]; exact tableB_wf _ _ rfl))
      clear HX5 HO5 y4 c0 c1 c2 c3 c4 c5
      have z0 : ∀ W, Ext w9.drew W → W.cell? ⟨wr.heap.size, 0, none⟩ = some (.int .u32 (num o)) := fun W hW => blk_cell (i := 0) hb9 (drew_ext hW) rfl
      have z1 : ∀ W, Ext w9.drew W → W.cell? ⟨wr.heap.size, 1, none⟩ = some (.string (name o)) := fun W hW => blk_cell (i := 1) hb9 (drew_ext hW) rfl
      have z2 : ∀ W, Ext w9.drew W → W.cell? ⟨wr.heap.size, 2, none⟩ = some (.int .i64 (pl1 o)) := fun W hW => blk_cell (i := 2) hb9 (drew_ext hW) rfl
      have z3 : ∀ W, Ext w9.drew W → W.cell? ⟨wr.heap.size, 3, none⟩ = some (.int .i64 (pl2 o)) := fun W hW => blk_cell (i := 3) hb9 (drew_ext hW) rfl
      have z4 : ∀ W, Ext w9.drew W → W.cell? ⟨wr.heap.size, 4, none⟩ = some (.int .i64 (pl3 o)) := fun W hW => blk_cell (i := 4) hb9 (drew_ext hW) rfl
      have W3 : IntKind.u64.wrap (num o) = num o := IntWalk.u64_in _ (by have := HFO.out.num0; have := HFO.out.num1; omega)
      have W4 : IntKind.u64.wrap (pl1 o) = pl1 o := IntWalk.u64_in _ (by have := HFO.out.l0; have := HFO.out.l1; omega)
      have W5 : IntKind.u64.wrap (pl2 o) = pl2 o := IntWalk.u64_in _ (by have := HFO.out.c0; have := HFO.out.c1; omega)
      have W6 : IntKind.u64.wrap (pl3 o) = pl3 o := IntWalk.u64_in _ (by have := HFO.out.p0; have := HFO.out.p1; omega)
      have HB9 := Lib.hid hb9
      clear hb9 hc9 hE9
      refine Lex.wp_region_u [0, 1, 2, 3, 4, 5, 6, 7, 8, 9, 10, 11, 12, 13, 14, 15, 16, 17, 18, 19, 20, 21, 22, 23, 24, 25, 26] [] [(4, Lex.Loose.nums .u8 4 (Le.le 4 (num o))), (7, Lex.Loose.nums .u8 (name o).size (bytesI (name o))), (8, Lex.Loose.nums .u8 (2 + (name o).size) (textB (name o))), (13, Lex.Loose.nums .u8 4 (Le.le 4 (pl1 o))), (18, Lex.Loose.nums .u8 2 (Le.le 2 (pl2 o))), (23, Lex.Loose.nums .u8 2 (Le.le 2 (pl3 o))), (25, Lex.Loose.row w9 5 .u8 (d + (14 + (name o).size)) (xs ++ objB o))] (by kernel_rfl) (by kernel_rfl) (by repeat (first | exact Lex.st_nil | refine Lex.st_cons (by first | exact Lex.nums_st | exact Lex.const_st | exact Lex.such_st | exact Lex.row_st | exact Lex.rowE_st | exact Lex.litR_st | assumption) ?_)) ?_; simp only [Lex.pick, List.getElem?_cons_succ, List.getElem?_cons_zero, List.map_nil]
      repeat (first | (refine Lex.lexU_skip (by rfl) ?_; simp only [Act.put, List.setIfInBounds_toArray, List.set_cons_zero, List.set_cons_succ]) | (refine Lex.lexU_still (by rfl) (by rfl) (by first | exact Base.Ext.refl | exact Lex.Fill.refl) ?_; apply Exists.intro; refine ⟨fun W hW => ?_, ?_⟩; (have hE := Lex.ext_of_cls hW.1; have hE2 := Lex.ext_drew hE; clear hW; go_simp; try with_reducible rfl); simp only [Act.put, List.setIfInBounds_toArray, List.set_cons_zero, List.set_cons_succ]))
      refine Lex.lexU_loose (by rfl) (by rfl) (fun W hW => ?_) ?_
      · clear hW
        go_simp
        refine (Ref01.num_calls (num o) 4 W (by decide) (by decide) HFO.out.num0 (by have := HFO.out.num1; omega)).mono ?_
        rintro e w' ⟨A', c', rfl, ho, hb⟩
        exact ⟨_, rfl, ⟨A', c', rfl⟩, hb, Lex.nums_mk (ho.rd (le_wf 4 _))⟩
      rintro v ⟨B1, d1, rfl⟩
      simp only [Act.put, List.setIfInBounds_toArray, List.set_cons_zero, List.set_cons_succ]
      repeat (first | (refine Lex.lexU_skip (by rfl) ?_; simp only [Act.put, List.setIfInBounds_toArray, List.set_cons_zero, List.set_cons_succ]) | (refine Lex.lexU_still (by rfl) (by rfl) (by first | exact Base.Ext.refl | exact Lex.Fill.refl) ?_; apply Exists.intro; refine ⟨fun W hW => ?_, ?_⟩; (have hE := Lex.ext_of_cls hW.1; have hE2 := Lex.ext_drew hE; clear hW; go_simp; try with_reducible rfl); simp only [Act.put, List.setIfInBounds_toArray, List.set_cons_zero, List.set_cons_succ]))
      refine Lex.lexU_loose (by rfl) (by rfl) (fun W hW => ?_) ?_
      · clear hW
        obtain ⟨cc, W', hrun, he, hrd, hlt⟩ := conv_str W (name o) (by have := HFO.out.nm; omega)
        go_simp
        exact ⟨⟨_, _, rfl⟩, he, Lex.nums_mk hrd⟩
      rintro v ⟨B2, d2, rfl⟩
      simp only [Act.put, List.setIfInBounds_toArray, List.set_cons_zero, List.set_cons_succ]
      repeat (first | (refine Lex.lexU_skip (by rfl) ?_; simp only [Act.put, List.setIfInBounds_toArray, List.set_cons_zero, List.set_cons_succ]) | (refine Lex.lexU_still (by rfl) (by rfl) (by first | exact Base.Ext.refl | exact Lex.Fill.refl) ?_; apply Exists.intro; refine ⟨fun W hW => ?_, ?_⟩; (have hE := Lex.ext_of_cls hW.1; have hE2 := Lex.ext_drew hE; clear hW; go_simp; try with_reducible rfl); simp only [Act.put, List.setIfInBounds_toArray, List.set_cons_zero, List.set_cons_succ]))
      refine Lex.lexU_loose (by rfl) (by rfl) (fun W hW => ?_) ?_
      · have hrd := (hW.2 7 (by kernel_rfl)).2 rfl _ _ rfl
        clear hW
        go_simp
        refine (rtext_calls B2 (name o).size d2 (bytesI (name o)) W hrd (by have := HFO.out.nm; omega)).mono ?_
        rintro e w' ⟨A', c', rfl, ho, hb⟩
        exact ⟨_, rfl, ⟨A', c', rfl⟩, hb, Lex.nums_mk (ho.rd (textB_wf _))⟩
      rintro v ⟨B3, d3, rfl⟩
      simp only [Act.put, List.setIfInBounds_toArray, List.set_cons_zero, List.set_cons_succ]
      repeat (first | (refine Lex.lexU_skip (by rfl) ?_; simp only [Act.put, List.setIfInBounds_toArray, List.set_cons_zero, List.set_cons_succ]) | (refine Lex.lexU_still (by rfl) (by rfl) (by first | exact Base.Ext.refl | exact Lex.Fill.refl) ?_; apply Exists.intro; refine ⟨fun W hW => ?_, ?_⟩; (have hE := Lex.ext_of_cls hW.1; have hE2 := Lex.ext_drew hE; clear hW; go_simp; try with_reducible rfl); simp only [Act.put, List.setIfInBounds_toArray, List.set_cons_zero, List.set_cons_succ]))
      refine Lex.lexU_loose (by rfl) (by rfl) (fun W hW => ?_) ?_
      · clear hW
        go_simp
        refine (Ref01.num_calls (pl1 o) 4 W (by decide) (by decide) HFO.out.l0 (by have := HFO.out.l1; omega)).mono ?_
        rintro e w' ⟨A', c', rfl, ho, hb⟩
        exact ⟨_, rfl, ⟨A', c', rfl⟩, hb, Lex.nums_mk (ho.rd (le_wf 4 _))⟩
      rintro v ⟨B4, d4, rfl⟩
      simp only [Act.put, List.setIfInBounds_toArray, List.set_cons_zero, List.set_cons_succ]
      repeat (first | (refine Lex.lexU_skip (by rfl) ?_; simp only [Act.put, List.setIfInBounds_toArray, List.set_cons_zero, List.set_cons_succ]) | (refine Lex.lexU_still (by rfl) (by rfl) (by first | exact Base.Ext.refl | exact Lex.Fill.refl) ?_; apply Exists.intro; refine ⟨fun W hW => ?_, ?_⟩; (have hE := Lex.ext_of_cls hW.1; have hE2 := Lex.ext_drew hE; clear hW; go_simp; try with_reducible rfl); simp only [Act.put, List.setIfInBounds_toArray, List.set_cons_zero, List.set_cons_succ]))
      refine Lex.lexU_loose (by rfl) (by rfl) (fun W hW => ?_) ?_
      · clear hW
        go_simp
        refine (Ref01.num_calls (pl2 o) 2 W (by decide) (by decide) HFO.out.c0 (by have := HFO.out.c1; omega)).mono ?_
        rintro e w' ⟨A', c', rfl, ho, hb⟩
        exact ⟨_, rfl, ⟨A', c', rfl⟩, hb, Lex.nums_mk (ho.rd (le_wf 2 _))⟩
      rintro v ⟨B5, d5, rfl⟩
      simp only [Act.put, List.setIfInBounds_toArray, List.set_cons_zero, List.set_cons_succ]
      repeat (first | (refine Lex.lexU_skip (by rfl) ?_; simp only [Act.put, List.setIfInBounds_toArray, List.set_cons_zero, List.set_cons_succ]) | (refine Lex.lexU_still (by rfl) (by rfl) (by first | exact Base.Ext.refl | exact Lex.Fill.refl) ?_; apply Exists.intro; refine ⟨fun W hW => ?_, ?_⟩; (have hE := Lex.ext_of_cls hW.1; have hE2 := Lex.ext_drew hE; clear hW; go_simp; try with_reducible rfl); simp only [Act.put, List.setIfInBounds_toArray, List.set_cons_zero, List.set_cons_succ]))
      refine Lex.lexU_loose (by rfl) (by rfl) (fun W hW => ?_) ?_
      · clear hW
        go_simp
        refine (Ref01.num_calls (pl3 o) 2 W (by decide) (by decide) HFO.out.p0 (by have := HFO.out.p1; omega)).mono ?_
        rintro e w' ⟨A', c', rfl, ho, hb⟩
        exact ⟨_, rfl, ⟨A', c', rfl⟩, hb, Lex.nums_mk (ho.rd (le_wf 2 _))⟩
      rintro v ⟨B6, d6, rfl⟩
      simp only [Act.put, List.setIfInBounds_toArray, List.set_cons_zero, List.set_cons_succ]
      repeat (first | (refine Lex.lexU_skip (by rfl) ?_; simp only [Act.put, List.setIfInBounds_toArray, List.set_cons_zero, List.set_cons_succ]) | (refine Lex.lexU_still (by rfl) (by rfl) (by first | exact Base.Ext.refl | exact Lex.Fill.refl) ?_; apply Exists.intro; refine ⟨fun W hW => ?_, ?_⟩; (have hE := Lex.ext_of_cls hW.1; have hE2 := Lex.ext_drew hE; clear hW; go_simp; try with_reducible rfl); simp only [Act.put, List.setIfInBounds_toArray, List.set_cons_zero, List.set_cons_succ]))
      refine Lex.lexU_such (by rfl) (by rfl) (Lex.blkL 6 22 #[.slice D d dc, .slice B1 4 d1, .slice B3 (2 + (name o).size) d3, .slice B4 4 d4, .slice B5 2 d5, .slice B6 2 d6]) (Lex.blkL_st) (fun W hW => ?_) ?_
      · clear hW
        go_simp
        exact ⟨⟨_, rfl⟩, Ext.new _ _, Lex.blkL_mk⟩
      rintro v ⟨g6, rfl⟩
      simp only [Act.put, List.setIfInBounds_toArray, List.set_cons_zero, List.set_cons_succ]
      repeat (first | (refine Lex.lexU_skip (by rfl) ?_; simp only [Act.put, List.setIfInBounds_toArray, List.set_cons_zero, List.set_cons_succ]) | (refine Lex.lexU_still (by rfl) (by rfl) (by first | exact Base.Ext.refl | exact Lex.Fill.refl) ?_; apply Exists.intro; refine ⟨fun W hW => ?_, ?_⟩; (have hE := Lex.ext_of_cls hW.1; have hE2 := Lex.ext_drew hE; clear hW; go_simp; try with_reducible rfl); simp only [Act.put, List.setIfInBounds_toArray, List.set_cons_zero, List.set_cons_succ]))
      refine Lex.lexU_loose (by rfl) (by rfl) (fun W hW => ?_) ?_
      · have hE := Lex.ext_drew (Lex.ext_of_cls hW.1)
        have h6 := Lex.upd_here (hW.2 24 (by kernel_rfl)) _ rfl
        have r1 := (hW.2 4 (by kernel_rfl)).1.1.1.1.1.1.2 rfl _ _ rfl
        have r3 := (hW.2 8 (by kernel_rfl)).1.1.1.1.2 rfl _ _ rfl
        have r4 := (hW.2 13 (by kernel_rfl)).1.1.1.2 rfl _ _ rfl
        have r5 := (hW.2 18 (by kernel_rfl)).1.1.2 rfl _ _ rfl
        have r6 := (hW.2 23 (by kernel_rfl)).1.2 rfl _ _ rfl
        clear hW
        go_simp
        have hfl : Ref01.flat [(D, d, dc, xs), (B1, 4, d1, Le.le 4 (num o)), (B3, 2 + (name o).size, d3, textB (name o)), (B4, 4, d4, Le.le 4 (pl1 o)), (B5, 2, d5, Le.le 2 (pl2 o)), (B6, 2, d6, Le.le 2 (pl3 o))] = xs ++ objB o := by simp [Ref01.flat, objB]
        have hln : (xs ++ objB o).length = d + (14 + (name o).size) := by
          rw [List.length_append, hxl]
          simp [objB, textB, Le.le_length, bytesI_len]
          omega
        refine (Ref01.join_calls _ 6 6 [(D, d, dc, xs), (B1, 4, d1, Le.le 4 (num o)), (B3, 2 + (name o).size, d3, textB (name o)), (B4, 4, d4, Le.le 4 (pl1 o)), (B5, 2, d5, Le.le 2 (pl2 o)), (B6, 2, d6, Le.le 2 (pl3 o))] _ (rdrows_at (rows := [(D, d, dc, xs), (B1, 4, d1, Le.le 4 (num o)), (B3, 2 + (name o).size, d3, textB (name o)), (B4, 4, d4, Le.le 4 (pl1 o)), (B5, 2, d5, Le.le 2 (pl2 o)), (B6, 2, d6, Le.le 2 (pl3 o))]) h6 rfl (by
          intro r hr
          simp only [List.mem_cons, List.not_mem_nil, or_false] at hr
          rcases hr with rfl | rfl | rfl | rfl | rfl | rfl
          · exact HR9.out.ext hE
          · exact r1
          · exact r3
          · exact r4
          · exact r5
          · exact r6)) (by omega) (by rw [hfl, hln]; have := HFO.out.nm; omega)).mono ?_
        rw [hfl, hln]
        rintro e w' ⟨A', c', rfl, ho, hb⟩
        exact ⟨_, rfl, ⟨A', c', rfl, ho.cap.1⟩, hb, Lex.row_mk (ho.mono fun i _ hi => Nat.le_trans hE.size hi)⟩
      rintro v ⟨D1, dc1, rfl, hdc1⟩
      simp only [Act.put, List.setIfInBounds_toArray, List.set_cons_zero, List.set_cons_succ]
      repeat (first | (refine Lex.lexU_skip (by rfl) ?_; simp only [Act.put, List.setIfInBounds_toArray, List.set_cons_zero, List.set_cons_succ]) | (refine Lex.lexU_still (by rfl) (by rfl) (by first | exact Base.Ext.refl | exact Lex.Fill.refl) ?_; apply Exists.intro; refine ⟨fun W hW => ?_, ?_⟩; (have hE := Lex.ext_of_cls hW.1; have hE2 := Lex.ext_drew hE; clear hW; go_simp; try with_reducible rfl); simp only [Act.put, List.setIfInBounds_toArray, List.set_cons_zero, List.set_cons_succ]))
      refine Lex.lexU_nil (fun W hW => ?_)
      have HX7 := Lib.hid (Lex.ext_drew hW.1)
      have HO7 := Lib.hid ((hW.2 25).2 rfl _ _ rfl)
      clear hW z0 z1 z2 z3 z4 HR9 HO9 hdc1 W3 W4 W5 W6
      generalize wr.heap.size = bx at *
      obtain ⟨Y, hY⟩ : ∃ Y, Y = xs ++ objB o := ⟨_, rfl⟩
      have hYl : Y.length = d + (14 + (name o).size) := by
        rw [hY, List.length_append, hxl]
        simp [objB, textB, Le.le_length, bytesI_len]
        omega
      have hnm := HFO.out.nm
      rw [← hY] at HO7
      have he0 : d + (14 + (name o).size) ≤ 88 + k * 4000 := by omega
      generalize d + (14 + (name o).size) = e0 at *
      have HY := Lib.hid hY
      clear hY hnm
      refine Lex.onlyN_intro ?_
      go_wp2_with fail
      generalize hPA : pA o = PA at HPL HB9 ⊢
      go_loopg [3, 6] (pN o) (fun q v i wi => ∃ (j : Nat) (ys : List Int) (E : Option Addr) (e ec : Nat), j ≤ pN o ∧ q = pN o - j ∧ i = .int .i64 (j : Nat) ∧ v = .slice E e ec ∧ ys.length = e ∧ e ≤ 88 + k * 4000 + j * 120 ∧ Hid (ys = Y ++ ((rows o).take j).flatMap rowB) ∧ Hid (Ext w9 wi) ∧ Hid (Own wi (fun i => w9.heap.size ≤ i) 5 1 (.slice E e ec) e (nums .u8 ys)))
      case atStart => exact ⟨0, _, _, _, _, Nat.zero_le _, rfl, rfl, rfl, hYl, by omega, Lib.hid (by simp), HX7, HO7⟩
      case round =>
        clear HX7 HO7
        obtain ⟨j, ys, E, e, ec, hj, rfl, rfl, rfl, hyl, hel, HYS, HX7, HO7⟩ := hrel
        have y3 : wr.cell? ⟨bx, 5, none⟩ = some (.slice PA (pN o) (pC o)) := blk_cell (i := 5) HB9.out HX7.out rfl
        by_cases hlt3 : j < pN o
        · obtain ⟨adp, r, rfl, hr0, hrow, hrok⟩ := row_at HPL.out hlt3
          have hX9 := (HE1.out.trans HX9.out).trans HX7.out
          have hrc := hX9.cell_ hrow
          have hrm := List.mem_of_getElem? hr0
          have hre := HFO.out.each r hrm
          have hrs := hre.1
          have HPE := Lib.hid hre.2
          have HRB := Lib.hid (HRL.out r hrm)
          have HROK := Lib.hid hrok
          have HR0 := Lib.hid hr0
          have hrcap : rN r ≤ rC r := (sl_len hrok).2.1
          have hji : ((j : Nat) : Int) < ((pN o : Nat) : Int) := by omega
          have hrb : (adp.add j).block < w.heap.size := World.block_lt_of_cell? w _ hrow
          have hgb : w.heap.size ≤ w9.heap.size := (HE1.out.trans HX9.out).size
          clear hrok hr0 hrm hre hX9
          go_wp2_with fail
          generalize hRA : rA r = RA at HROK hrc hrow ⊢
          have HRW := Lib.hid hrow
          clear hrow hrc y3
          go_loopg [3, 7] (rN r) (fun q v i wi => ∃ (m : Nat) (zs : List Int) (F : Option Addr) (f fc : Nat), m ≤ rN r ∧ q = rN r - m ∧ i = .int .i64 (m : Nat) ∧ v = .slice F f fc ∧ zs.length = f ∧ f ≤ 88 + k * 4000 + j * 120 + m * 5 ∧ Hid (zs = ys ++ ((rP r).take m).flatMap placeB) ∧ Hid (Ext w9 wi) ∧ Hid (Own wi (fun i => w9.heap.size ≤ i) 5 1 (.slice F f fc) f (nums .u8 zs)))
          case atStart => exact ⟨0, _, _, _, _, Nat.zero_le _, rfl, rfl, rfl, hyl, by omega, Lib.hid (by simp), HX7, HO7⟩
          case round =>
            clear HX7 HO7
            obtain ⟨m, zs, F, f, fc, hm, rfl, rfl, rfl, hzl, hfl, HZS, HX7, HO7⟩ := hrel
            have y3 : wr.cell? ⟨bx, 5, none⟩ = some (.slice (some adp) (pN o) (pC o)) := blk_cell (i := 5) HB9.out HX7.out rfl
            have hX9 := (HE1.out.trans HX9.out).trans HX7.out
            have y6 : wr.cell? (adp.add j) = some (.slice RA (rN r) (rC r)) := hX9.cell_ HRW.out
            by_cases hlt4 : m < rN r
            · obtain ⟨ap, p, rfl, hp, hp0, hp1, _, _⟩ := place_at HROK.out hlt4
              have HPP := Lib.hid (HPE.out p (List.mem_of_getElem? hp))
              have d0 := hX9.cell_ hp0
              have d1 := hX9.cell_ hp1
              have hpb0 : (ap.add (m * 2)).block < w.heap.size := World.block_lt_of_cell? w _ hp0
              have hpb1 : (Addr.mk (ap.add (m * 2)).block ((ap.add (m * 2)).off + 1) none).block < w.heap.size := hpb0
              have HP := Lib.hid hp
              have hmi : ((m : Nat) : Int) < ((rN r : Nat) : Int) := by omega
              clear hp hp0 hp1 hX9
              go_upto_region 13 with fail
              obtain ⟨f0, hf0⟩ : ∃ f0 : Nat → Prop, f0 = fun i => (Value.slice F f fc).ownBlock = some i := ⟨_, rfl⟩
              have hk : ∀ W, Chg f0 wr.drew W → ∀ a v, wr.cell? a = some v → a.block < w9.heap.size → W.cell? a = some v := fun W hW a v hc hb => Chg.cell hW (show wr.drew.cell? a = some v from hc) fun hf => by
                rw [hf0] at hf
                have := HO7.out.foot _ hf
                omega
              have hbx : bx < w9.heap.size := Pack.lt_of_at HB9.out
              have z0 : ∀ W, Chg f0 wr.drew W → W.cell? ⟨bx, 5, none⟩ = some (.slice (some adp) (pN o) (pC o)) := fun W hW => hk W hW _ _ y3 hbx
              have z1 : ∀ W, Chg f0 wr.drew W → W.cell? (adp.add j) = some (.slice (some ap) (rN r) (rC r)) := fun W hW => hk W hW _ _ y6 (by omega)
              have z2 : ∀ W, Chg f0 wr.drew W → W.cell? (ap.add (m * 2)) = some (.int .i64 (node p)) := fun W hW => hk W hW _ _ d0 (by omega)
              have z3 : ∀ W, Chg f0 wr.drew W → W.cell? ⟨(ap.add (m * 2)).block, (ap.add (m * 2)).off + 1, none⟩ = some (.int .u32 (gen p)) := fun W hW => hk W hW _ _ d1 (by omega)
              have W3 : IntKind.u8.wrap (node p) = node p := IntWalk.u8_in _ (by have := HPP.out; omega)
              have W4 : IntKind.u64.wrap (gen p) = gen p := IntWalk.u64_in _ (by have := HPP.out; omega)
              have hle2 : Le.le 1 (node p) = [node p] := by have := HPP.out; simp [Le.le]; omega
              have HI0 : Hid ((Lex.rowR w9 5 1 f (nums .u8 zs)).R (.slice F f fc) f0 wr.drew) := Lib.hid fun A c e => by
                cases e
                exact ⟨Own.extNew HO7.out (Ext.drew (Ext.refl _)), fun i hi => by rw [hf0]; exact hi⟩
              have HLT : Hid (∀ i, f0 i → i < wr.heap.size) := Lib.hid fun i hi => Lex.own_ltB HO7.out (by rw [hf0] at hi; exact hi)
              have HFW : Hid (∀ i, f0 i → w9.heap.size ≤ i) := Lib.hid fun i hi => HO7.out.foot i (by rw [hf0] at hi; exact hi)
              have hsz : w9.heap.size ≤ wr.heap.size := HX7.out.size
              clear hk d0 d1 y3 y6 HO7 hpb0 hpb1 hrb hbx hf0
              refine Lex.wp_region_rw [0, 1, 2, 3, 4, 5, 6, 7, 8, 9, 10, 11, 12, 13, 14, 15, 16, 17, 18, 19, 20, 21, 22, 23, 24, 25] [] f0 26 (Lex.rowR w9 5 1 f (nums .u8 zs)) (.slice F f fc) [(12, 26), (24, 12)] [(11, Lex.rowR w9 5 1 1 [.int .u8 (node p)]), (12, Lex.rowR w9 5 1 (f + 1) (nums .u8 (zs ++ Le.le 1 (node p)))), (23, Lex.rowR w9 5 1 4 (nums .u8 (Le.le 4 (gen p)))), (24, Lex.rowR w9 5 1 (f + 5) (nums .u8 (zs ++ placeB p)))] (by kernel_rfl) (by kernel_rfl) (by kernel_rfl) (by repeat (first | exact Lex.ok_nilR | refine Lex.ok_consR (by first | exact Lex.rowR_ok | exact Tbl.wrR_ok | exact Tbl.rdR_ok | assumption) ?_)) (by first | exact Tbl.wrR_ok | exact Lex.rowR_ok) HI0.out HLT.out ?_; simp only [Lex.pick, List.getElem?_cons_succ, List.getElem?_cons_zero, List.map_cons, List.map_nil]
              repeat (first | (refine Lex.lexR_skip (by rfl) ?_; simp only [Act.put, List.setIfInBounds_toArray, List.set_cons_zero, List.set_cons_succ]) | (refine Lex.lexR_still (by rfl) (by rfl) ?_; apply Exists.intro; refine ⟨fun W hW => ?_, ?_⟩; (have hE := hW; clear hW; go_simp; try with_reducible rfl); simp only [Act.put, List.setIfInBounds_toArray, List.set_cons_zero, List.set_cons_succ]))
              refine Lex.lexR_loose (by rfl) (by rfl) (fun W hW hAP => ?_) ?_
              · have hsz2 : wr.heap.size ≤ W.heap.size := hW.1.size
                clear hW hAP
                go_simp
                exact Lex.rowR_new (by omega) (Ext.new _ _) (Lex.own_lit (by simp) (by decide))
              rintro v f1 ⟨B1, b1, rfl⟩
              simp only [Act.put, List.setIfInBounds_toArray, List.set_cons_zero, List.set_cons_succ]
              refine Lex.lexR_loose (by rfl) (by rfl) (fun W hW hAP => ?_) ?_
              · obtain ⟨hown, hfo⟩ := ((hW.2 26 (by kernel_rfl) rfl).1.2 rfl) _ _ rfl
                obtain ⟨hrd, _⟩ := ((hW.2 11 (by kernel_rfl) rfl).2 rfl) _ _ rfl
                have hsz2 : wr.heap.size ≤ W.heap.size := hW.1.size
                clear hW hAP
                refine Lex.app_looseR (n := f) (m := 1) (xs := nums .u8 zs) (ys := nums .u8 (zs ++ Le.le 1 (node p))) (.tmp 78) (.tmp 89) _ rfl 5 _ 1 1 Try.underlying22 Pack.info_u8 rfl (by decide) (by decide) rfl hown ?_ rfl rfl (fun h => by subst h; have := hrd.cap.2 rfl; have := hrd.cap.1; omega) (Lex.own_cells hrd) (by simp [Value.oneCell']) (by omega) (by omega) rfl (by rw [hle2]; simp [nums])
                exact fun i hi => ⟨26, by simp, .inl (.inr ⟨rfl, hfo i hi⟩)⟩
              rintro v f2 ⟨B2, b2, rfl⟩
              simp only [Act.put, List.setIfInBounds_toArray, List.set_cons_zero, List.set_cons_succ]
              repeat (first | (refine Lex.lexR_skip (by rfl) ?_; simp only [Act.put, List.setIfInBounds_toArray, List.set_cons_zero, List.set_cons_succ]) | (refine Lex.lexR_still (by rfl) (by rfl) ?_; apply Exists.intro; refine ⟨fun W hW => ?_, ?_⟩; (have hE := hW; clear hW; go_simp; try with_reducible rfl); simp only [Act.put, List.setIfInBounds_toArray, List.set_cons_zero, List.set_cons_succ]))
              refine Lex.lexR_loose (by rfl) (by rfl) (fun W hW hAP => ?_) ?_
              · have hsz2 : wr.heap.size ≤ W.heap.size := hW.1.size
                clear hW hAP
                go_simp
                refine (Ref01.num_calls (gen p) 4 W (by decide) (by decide) HPP.out.2.2.1 (by have := HPP.out; omega)).mono ?_
                rintro e w' ⟨A', c', rfl, ho, hb⟩
                exact ⟨_, rfl, Lex.rowR_new (by omega) hb ho⟩
              rintro v f3 ⟨B3, b3, rfl⟩
              simp only [Act.put, List.setIfInBounds_toArray, List.set_cons_zero, List.set_cons_succ]
              refine Lex.lexR_loose (by rfl) (by rfl) (fun W hW hAP => ?_) ?_
              · obtain ⟨hown, hfo⟩ := ((hW.2 12 (by kernel_rfl) rfl).1.2 rfl) _ _ rfl
                obtain ⟨hrd, _⟩ := ((hW.2 23 (by kernel_rfl) rfl).2 rfl) _ _ rfl
                have hsz2 : wr.heap.size ≤ W.heap.size := hW.1.size
                clear hW hAP
                refine Lex.app_looseR (n := f + 1) (m := 4) (xs := nums .u8 (zs ++ Le.le 1 (node p))) (ys := nums .u8 (zs ++ placeB p)) (.tmp 90) (.tmp 101) _ rfl 5 _ 1 1 Try.underlying22 Pack.info_u8 rfl (by decide) (by decide) rfl hown ?_ rfl (by simp [nums, Le.le_length]) (fun h => by subst h; have := hrd.cap.2 rfl; have := hrd.cap.1; omega) (Lex.own_cells hrd) (fun u hu => by obtain ⟨x, _, rfl⟩ := List.mem_map.1 hu; rfl) (by omega) (by omega) rfl (by simp [nums, placeB])
                exact fun i hi => ⟨12, by simp, .inl (.inr ⟨rfl, hfo i hi⟩)⟩
              rintro v f4 ⟨B4, b4, rfl⟩
              simp only [Act.put, List.setIfInBounds_toArray, List.set_cons_zero, List.set_cons_succ]
              repeat (first | (refine Lex.lexR_skip (by rfl) ?_; simp only [Act.put, List.setIfInBounds_toArray, List.set_cons_zero, List.set_cons_succ]) | (refine Lex.lexR_still (by rfl) (by rfl) ?_; apply Exists.intro; refine ⟨fun W hW => ?_, ?_⟩; (have hE := hW; clear hW; go_simp; try with_reducible rfl); simp only [Act.put, List.setIfInBounds_toArray, List.set_cons_zero, List.set_cons_succ]))
              refine Lex.lexR_nil (fun W hW hF => ?_)
              have HO8 := Lib.hid (((hF 24 rfl).2 rfl) _ _ rfl).1
              have HX8 : Hid (Ext w9 W) := Lib.hid (HX7.out.chg ((Chg.drew (Chg.refl _ _)).trans hW) HFW.out)
              clear hW hF z0 z1 z2 z3 HI0 HLT HFW HX7 HPP
              refine Lex.onlyN_intro ?_
              go_wp2_with fail
              go_roundg (rN r - (m + 1))
              case measure => omega
              case rel => exact ⟨m + 1, zs ++ placeB p, B4, f + 5, b4, by omega, rfl, by first | rfl | go_num, rfl, by simp [placeB, Le.le_length]; omega, by omega, Lib.hid (by rw [HZS.out, List.take_add_one, HP.out]; simp), HX8, HO8⟩
            · obtain rfl : m = rN r := by omega
              have HZ2 : Hid (zs = Y ++ ((rows o).take (j + 1)).flatMap rowB) := Lib.hid (by
                rw [HZS.out, HYS.out, List.take_of_length_le (l := rP r) (Nat.le_of_eq (sl_len HROK.out).1), List.take_add_one, HR0.out]
                simp [rowB])
              clear hX9
              go_wp2_with fail
              go_roundg (pN o - (j + 1))
              case measure => omega
              case rel => exact ⟨j + 1, zs, F, f, fc, by omega, rfl, by first | rfl | go_num, rfl, hzl, by omega, HZ2, HX7, HO7⟩
        · obtain rfl : j = pN o := by omega
          have HZ2 : Hid (ys = X ++ (objs.take (k + 1)).flatMap wholeB) := Lib.hid (by
            rw [HYS.out, HY.out, HXS.out, List.take_of_length_le (l := rows o) (Nat.le_of_eq HFO.out.rws.2), List.take_add_one, HOB.out]
            simp [wholeB])
          have HXn := Lib.hid (HX9.out.trans HX7.out)
          have HOn : Hid (Own wr (fun i => w1.heap.size ≤ i) 5 1 (.slice E e ec) e (nums .u8 ys)) := Lib.hid (HO7.out.mono fun i _ hi => Nat.le_trans HX9.out.size hi)
          go_wp2_with fail
          go_roundg (n - (k + 1))
          case measure => omega
          case rel => exact ⟨k + 1, ys, E, e, ec, by omega, rfl, by first | rfl | go_num, rfl, hyl, by omega, HZ2, HXn, HOn⟩
    · obtain rfl : k = n := by omega
      have HZ2 : Hid (xs = tableB ⟨nx, ls, A, k, c, objs⟩) := Lib.hid (by
        rw [HXS.out, List.take_of_length_le (by rw [HL.out]; exact Nat.le_refl _), HX.out]
        rfl)
      subst hxl
      go_wp2_with fail
      go_ret
      rw [← HZ2.out]
      exact ⟨hE1, D, dc, rfl, HO5.out.mono fun i _ hi => by have := HE1.out.size; omega⟩
end Go.Proofs.Ytfhgjopoohfhjaa.Tbl
