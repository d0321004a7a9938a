/- The law compares the program's table with the document's: alike, it says yes. -/
import Derived.Test.YtfhgjopoohfhjaaTableIs
import Derived.Test.YtfhgjopoohfhjaaTableRBytes
namespace Go.Proofs.Ytfhgjopoohfhjaa.Tbl
open Go.RowKit Base Step Vec Shape Erase
/-! loads of whole structs, told ahead -/
section
variable {P : Program}
theorem exec_load_row {o : Oper} {a : Act} {w : World} (ty : TypeId) (x : Operand) (ho : o.op = .load ty x) (g : Nat) (hx : a.eval x = .pointer (some ⟨g, 0, none⟩)) (t : TypeId) (cs : Array Value) (fr : Nat × Nat) (d : TypeDesc) (hg : w.heap[g]? = some (.cells cs t fr))
    (hu : P.underlying ty = some d) (hd : (match d with | .struct _ | .array _ _ => true | _ => false) = true) (hi : (P.info? ty).map (·.size) = some cs.size) : (execOp a.eval o).run P w = .ok (.value (.agg cs)) w := by
  unfold execOp
  simp only [ho, hx, Instr.loadAt, Instr.sureAddr, Sem.run_bind, Sem.run_pure, Result.andThen_ok, run_loadVar_row w g t ty cs fr d hg hu hd hi]
theorem exec_load_at {o : Oper} {a : Act} {w : World} (ty : TypeId) (x : Operand) (ho : o.op = .load ty x) (ad : Addr) (hx : a.eval x = .pointer (some ad)) (cs : List Value) (d : TypeDesc) (hc : ∀ j v, cs[j]? = some v → w.cell? (ad.add j) = some v)
    (hu : P.underlying ty = some d) (hd : d.isRow = true) (hi : (P.info? ty).map (·.size) = some cs.length) : (execOp a.eval o).run P w = .ok (.value (.agg cs.toArray)) w := by
  have hl := run_loadCells_list (P := P) w ad cs hc
  have hv : (loadVar ty ad).run P w = .ok (.agg cs.toArray) w := by
    cases hq : P.info? ty with
    | none => simp [hq] at hi
    | some i =>
      have hs : i.size = cs.length := by simpa [hq] using hi
      have hagg : (isAgg ty).run P w = .ok true w := by
        unfold isAgg
        rw [Sem.run_bind, run_underlying hu w]
        cases d <;> simp_all
      simp [loadVar, Sem.run_bind, hagg, sizeOf, typeInfo, hq, hs, hl]
  unfold execOp
  simp only [ho, hx, Instr.loadAt, Instr.sureAddr, Sem.run_bind, Sem.run_pure, Result.andThen_ok, hv]
end
/-- An object's cells in a slice of objects. -/
theorem obj_cells_at {w : World} {A : Option Addr} {n c : Nat} {objs : List Obj} (h : (Sh.sl objS).ok w (A, n, c, objs)) {i : Nat} {o : Obj} (ho : objs[i]? = some o) {ad : Addr} (hA : A = some ad) : ∀ j v, (objC o)[j]? = some v → w.cell? ((ad.add (i * 6)).add j) = some v := by
  obtain ⟨h1, h2, h3, h4, h5⟩ : objs.length = n ∧ n ≤ c ∧ c ≤ maxLen ∧ (A = none → c = 0) ∧ ∀ (i : Nat) (x : Obj), objs[i]? = some x → objS.ok w x ∧ ∃ ad, A = some ad ∧ ∀ (j : Nat) u, (objS.cells x)[j]? = some u → w.cell? (ad.add (i * objS.size + j)) = some u := h
  intro j v hv
  obtain ⟨_, ad', ha', hc⟩ := h5 i o ho
  rw [hA] at ha'
  cases ha'
  rw [Base.add_of_add]
  exact hc j v hv
theorem str8 {w : World} {A : Option Addr} {n : Nat} {xs : List Int} (c : Nat) (h : Rd w .u8 A n xs) : (convert 22 9 (.slice A n c)).run Try.prog w = .ok (.string (strOfNums xs)) w :=
  run_string 22 9 5 c Try.underlying22 Try.underlying5 Try.underlying9 h
/-! two tables that say the same: the same bytes, the same use -/
theorem rows_flat {α : Type} {f : List plS.T → List α} : ∀ {l m : List Row}, l.map rP = m.map rP → l.flatMap (fun r => f (rP r)) = m.flatMap fun r => f (rP r)
  | [], [], _ => rfl
  | [], _ :: _, h => by simp at h
  | _ :: _, [], h => by simp at h
  | a :: l, b :: m, h => by
    simp only [List.map_cons, List.cons.injEq] at h
    rw [List.flatMap_cons, List.flatMap_cons, h.1, rows_flat h.2]
theorem objs_flat {α : Type} {f : Obj → List α} (hf : ∀ a b, view a = view b → f a = f b) : ∀ {l m : List Obj}, l.map view = m.map view → l.flatMap f = m.flatMap f
  | [], [], _ => rfl
  | [], _ :: _, h => by simp at h
  | _ :: _, [], h => by simp at h
  | a :: l, b :: m, h => by
    simp only [List.map_cons, List.cons.injEq] at h
    rw [List.flatMap_cons, List.flatMap_cons, hf a b h.1, objs_flat hf h.2]
theorem whole_view (a b : Obj) (h : view a = view b) : wholeB a = wholeB b := by
  unfold wholeB objB pl1 pl2 pl3
  rw [view_num h, view_name h, view_plan h]
  congr 1
  exact rows_flat (f := fun l => l.flatMap placeB) (view_rows h)
theorem use_view (a b : Obj) (h : view a = view b) : plsOf a = plsOf b := rows_flat (f := fun l => l) (view_rows h)
theorem tableB_view {t r : Tb} (h : Both t r) : tableB t = tableB r := by
  have hn : t.n = r.n := by rw [← h.tn, ← h.rn]; exact h.eqv.len
  unfold tableB hdrB
  rw [h.eqv.nx, h.eqv.ls, hn, objs_flat whole_view h.eqv.objs]
/-- What an object that is told of says, beside the document's object that says the same. -/
theorem told_like {w w' : World} {o b : Obj} {e : Ending} {gt : Nat} (h : Told w (some o) e w') (hv : view o = view b) (hok : objS.ok w o) (hb : (rows b).length = pN b) (hgt : gt < w.heap.size) :
    ∃ A' c' l', e = .returned (.tuple #[.agg #[.int .u32 (num b), .string (name b), .int .i64 (pl1 b), .int .i64 (pl2 b), .int .i64 (pl3 b), .slice A' (pN b) c'], .bool true]) ∧ Ext w w' ∧ (Sh.sl rowS).ok w' (A', pN b, c', l') ∧ l'.map rP = (rows b).map rP := by
  obtain ⟨o', rfl, hc⟩ := h
  have hk := Sh.ok_off (hc.ok hok hgt)
  have hpl := (obj_ok hk).2.2.2
  have hlo : (rows o).length = pN o := (sl_len (obj_ok hok).2.2.2).1
  have hrl := rows_len hv
  have hpn : pN o' = pN b := by rw [hc.len, ← hlo, hrl, hb]
  refine ⟨pA o', pC o', rows o', ?_, hc.ext, by rw [← hpn]; exact hpl, ?_⟩
  · have e1 : num o' = num b := hc.num.trans (view_num hv)
    have e2 : name o' = name b := hc.name.trans (view_name hv)
    have e3 : plan o' = plan b := hc.plan.trans (view_plan hv)
    show Ending.returned (.tuple #[.agg #[.int .u32 (num o'), .string (name o'), .int .i64 (plan o').1, .int .i64 (plan o').2.1, .int .i64 (plan o').2.2.1, .slice (pA o') (pN o') (pC o')], .bool true]) = _
    rw [e1, e2, e3, hpn]
    rfl
  · rw [← view_rows hv]
    apply List.ext_getElem?
    intro i
    rw [List.getElem?_map, List.getElem?_map]
    have hl := hc.rlen
    rcases Nat.lt_or_ge i (rows o).length with hi | hi
    · obtain ⟨r, hr⟩ : ∃ r, (rows o)[i]? = some r := ⟨_, List.getElem?_eq_getElem hi⟩
      obtain ⟨r', hr'⟩ : ∃ r', (rows o')[i]? = some r' := ⟨_, List.getElem?_eq_getElem (by omega)⟩
      rw [hr, hr']
      simp [(hc.alike i r r' hr hr').1.2]
    · rw [List.getElem?_eq_none hi, List.getElem?_eq_none (by omega)]
theorem found_at {l : List Obj} (hs : Sorted l) {i : Nat} {o : Obj} (ho : l[i]? = some o) : found l (name o) = some o := by
  have hi := name_pos hs ho
  unfold found
  rcases there_name hs (name o) with ⟨h1, h2⟩ | ⟨h1, h2, _⟩
  · exfalso
    rcases nameFrom_spec (name o) l 0 with ⟨_, h4⟩ | ⟨j, p, h4, _⟩
    · exact h4 o (List.mem_of_getElem? ho) rfl
    · have : nameAt l (name o) = ((0 + j : Nat) : Int) := h4
      omega
  · rw [if_pos h1, place_pos hs, ← hi]
    exact ho
theorem num_at {l : List Obj} (h : (l.map num).Nodup) {i : Nat} {o : Obj} (ho : l[i]? = some o) : numAt l (num o) = i := by
  rcases numFrom_spec (num o) l 0 with ⟨_, h2⟩ | ⟨j, p, h2, h3, h4⟩
  · exact absurd rfl (h2 o (List.mem_of_getElem? ho))
  · have hij : j = i := by
      rcases Nat.lt_or_ge j i with k | k
      · exact absurd h4 (num_ne h h3 ho (by omega))
      · rcases Nat.lt_or_ge i j with k2 | k2
        · exact absurd h4 (num_ne h h3 ho (by omega))
        · omega
    subst hij
    unfold numAt
    rw [h2, Nat.zero_add]
/-- All that is known of the two. -/
structure Good (sl nd : Nat) (t r : Tb) : Prop where
  both : Both t r
  inv : Inv sl [] t
  ft : ∀ o ∈ t.objs, FineO nd sl o
  fr : ∀ o ∈ r.objs, FineO nd sl o
  l0 : 0 ≤ t.ls
  l1 : t.ls ≤ 4294967295
theorem FineO.small {nd sl : Nat} {o : Obj} (h : FineO nd sl o) (hsl : sl ≤ 24) : Small o :=
  ⟨by have := h.rws.1; have := h.rws.2; omega, fun r hr => by have := (h.each r hr).1; omega⟩
set_option maxRecDepth 100000 in
set_option maxHeartbeats 8000000 in
theorem same_calls (gt sl nd : Nat) (t r : Tb) (w : World) (h : TbAt w gt sl nd t) (hd : Doc w r) (hg : Good sl nd t r) (hsl : sl ≤ 24) (hnd : nd ≤ 32) :
    Calls Try.prog 81 #[.pointer (some ⟨gt, 0, none⟩), tabV sl nd r] w fun e w' => e = .returned (.bool true) ∧ Ext w w' := by
  have hn : t.n = r.n := by rw [← hg.both.tn, ← hg.both.rn]; exact hg.both.eqv.len
  have hnx : t.nx = r.nx := hg.both.eqv.nx
  have hls : t.ls = r.ls := hg.both.eqv.ls
  have h64 : r.n ≤ 64 := by rw [← hn, ← hg.both.tn]; exact hg.inv.few
  have huse : t.objs.flatMap plsOf = r.objs.flatMap plsOf := objs_flat use_view hg.both.eqv.objs
  have hbytes := tableB_view hg.both
  have hx0 := hg.inv.x0
  have hx1 := hg.inv.x1
  have hl0 := hg.l0
  have hl1 := hg.l1
  have HFT := Lib.hid hg.ft
  have HFR := Lib.hid hg.fr
  have HNX := Lib.hid hnx
  have HLS := Lib.hid hls
  have HN := Lib.hid hn
  have HBY := Lib.hid hbytes
  have HUS := Lib.hid huse
  have HG := Lib.hid hg
  have HT := Lib.hid h
  have HD := Lib.hid hd
  rw [hnx] at hx0 hx1
  rw [hls] at hl0 hl1
  obtain ⟨rx, rl, A, n, c, objs⟩ := r
  have h64 : n ≤ 64 := h64
  have hx0 : 1 ≤ rx := hx0
  have hx1 : rx ≤ 4294967295 := hx1
  have hl0 : 0 ≤ rl := hl0
  have hl1 : rl ≤ 4294967295 := hl1
  have hd : (Sh.sl objS).ok w (A, n, c, objs) := hd
  have hrc := (sl_len hd).2.1
  have e0 := Ext.new w (.cells #[.int .i64 sl, .int .i64 nd, .int .u32 rx, .int .u32 rl, .slice A n c] 149)
  have hb0 := at_new w (.cells #[.int .i64 sl, .int .i64 nd, .int .u32 rx, .int .u32 rl, .slice A n c] 149)
  clear h hd hg hn hnx hls huse hbytes
  go_enter Try.func81, Try.ntmps81
  go_upto_region 1 with fail
  generalize w.alloc (.cells #[.int .i64 sl, .int .i64 nd, .int .u32 rx, .int .u32 rl, .slice A n c] 149) = w1 at *
  have HB := Lib.hid hb0
  have HE := Lib.hid e0
  have z3 : ∀ W, Ext w1.drew W → W.heap[w.heap.size]? = some (.cells #[.int .i64 sl, .int .i64 nd, .int .u32 rx, .int .u32 rl, .slice A n c] 149 (0, 0)) := fun W hW => (drew_ext hW).at_ hb0
  clear hb0 e0
  have hs1 : (rowF w1 9 1 t.n (nameV t.objs)).St Ext := rowF_st
  have hs2 : (rowF w1 3 1 nd (nums .i64 (useOf nd (t.objs.flatMap plsOf)))).St Ext := rowF_st
  refine Lex.wp_region_u [0, 1, 2, 3, 4, 5, 6, 7, 8] [] [(1, rowF w1 9 1 t.n (nameV t.objs)), (3, rowF w1 3 1 nd (nums .i64 (useOf nd (t.objs.flatMap plsOf)))), (5, rowF w1 3 1 nd (nums .i64 (useOf nd (t.objs.flatMap plsOf))))] (by kernel_rfl) (by kernel_rfl) (by repeat (first | exact Lex.st_nil | refine Lex.st_cons (by first | exact Lex.nums_st | exact Lex.const_st | exact Lex.such_st | exact Lex.row_st | exact Lex.rowE_st | exact Lex.litR_st | assumption) ?_)) ?_; simp only [Lex.pick, List.getElem?_cons_succ, List.getElem?_cons_zero, List.map_nil]
  repeat (first | (refine Lex.lexU_skip (by rfl) ?_; simp only [Act.put, List.setIfInBounds_toArray, List.set_cons_zero, List.set_cons_succ]) | (refine Lex.lexU_still (by rfl) (by rfl) (by first | exact Base.Ext.refl | exact Lex.Fill.refl) ?_; apply Exists.intro; refine ⟨fun W hW => ?_, ?_⟩; (have hE := Lex.ext_of_cls hW.1; have hE2 := Lex.ext_drew hE; clear hW; go_simp; try with_reducible rfl); simp only [Act.put, List.setIfInBounds_toArray, List.set_cons_zero, List.set_cons_succ]))
  refine Lex.lexU_loose (by rfl) (by rfl) (fun W hW => ?_) ?_
  · have hE := Lex.ext_drew (Lex.ext_of_cls hW.1)
    clear hW
    go_simp
    refine (names_calls gt sl nd t W (HT.out.ext (HE.out.trans hE)) (by rw [HN.out]; exact h64)).mono ?_
    rintro e w' ⟨he, A', c', rfl, ho⟩
    exact ⟨_, rfl, ⟨A', c', rfl⟩, he, rowF_mk (ho.mono fun i _ hi => Nat.le_trans hE.size hi)⟩
  rintro v ⟨A1, c1, rfl⟩
  simp only [Act.put, List.setIfInBounds_toArray, List.set_cons_zero, List.set_cons_succ]
  repeat (first | (refine Lex.lexU_skip (by rfl) ?_; simp only [Act.put, List.setIfInBounds_toArray, List.set_cons_zero, List.set_cons_succ]) | (refine Lex.lexU_still (by rfl) (by rfl) (by first | exact Base.Ext.refl | exact Lex.Fill.refl) ?_; apply Exists.intro; refine ⟨fun W hW => ?_, ?_⟩; (have hE := Lex.ext_of_cls hW.1; have hE2 := Lex.ext_drew hE; clear hW; go_simp; try with_reducible rfl); simp only [Act.put, List.setIfInBounds_toArray, List.set_cons_zero, List.set_cons_succ]))
  refine Lex.lexU_loose (by rfl) (by rfl) (fun W hW => ?_) ?_
  · have hE := Lex.ext_drew (Lex.ext_of_cls hW.1)
    clear hW
    go_simp
    refine (use_calls gt sl nd t W (HT.out.ext (HE.out.trans hE)) (FineO.few HFT.out HG.out.inv.few) hsl hnd).mono ?_
    rintro e w' ⟨he, A', c', rfl, ho⟩
    exact ⟨_, rfl, ⟨A', c', rfl⟩, he, rowF_mk (ho.mono fun i _ hi => Nat.le_trans hE.size hi)⟩
  rintro v ⟨A2, c2, rfl⟩
  simp only [Act.put, List.setIfInBounds_toArray, List.set_cons_zero, List.set_cons_succ]
  refine Lex.lexU_still (by rfl) (by rfl) Ext.refl ⟨tabV sl nd ⟨rx, rl, A, n, c, objs⟩, fun W hW => ?_, ?_⟩
  · have hE := Lex.ext_of_cls hW.1
    clear hW
    exact exec_load_row 149 (.tmp 3) rfl w.heap.size rfl 149 _ (0, 0) _ (z3 W hE) Try.underlying149 rfl (by kernel_rfl)
  simp only [Act.put, List.setIfInBounds_toArray, List.set_cons_zero, List.set_cons_succ]
  refine Lex.lexU_loose (by rfl) (by rfl) (fun W hW => ?_) ?_
  · have hE := Lex.ext_drew (Lex.ext_of_cls hW.1)
    clear hW
    go_simp
    refine (rUse_calls sl nd ⟨rx, rl, A, n, c, objs⟩ W (Sh.ok_ext (HE.out.trans hE) _ _ HD.out) (FineO.few HFR.out (by rw [← HG.out.both.eqv.len]; exact HG.out.inv.few)) hsl hnd).mono ?_
    rintro e w' ⟨he, A', c', rfl, ho⟩
    rw [← HUS.out] at ho
    exact ⟨_, rfl, ⟨A', c', rfl⟩, he, rowF_mk (ho.mono fun i _ hi => Nat.le_trans hE.size hi)⟩
  rintro v ⟨A3, c3, rfl⟩
  simp only [Act.put, List.setIfInBounds_toArray, List.set_cons_zero, List.set_cons_succ]
  repeat (first | (refine Lex.lexU_skip (by rfl) ?_; simp only [Act.put, List.setIfInBounds_toArray, List.set_cons_zero, List.set_cons_succ]) | (refine Lex.lexU_still (by rfl) (by rfl) (by first | exact Base.Ext.refl | exact Lex.Fill.refl) ?_; apply Exists.intro; refine ⟨fun W hW => ?_, ?_⟩; (have hE := Lex.ext_of_cls hW.1; have hE2 := Lex.ext_drew hE; clear hW; go_simp; try with_reducible rfl); simp only [Act.put, List.setIfInBounds_toArray, List.set_cons_zero, List.set_cons_succ]))
  refine Lex.lexU_nil (fun W hW => ?_)
  have HE1 := Lib.hid (HE.out.trans (Lex.ext_drew hW.1))
  have HX1 := Lib.hid (Lex.ext_drew hW.1)
  have HO1 := Lib.hid ((hW.2 1).1.1.2 rfl _ _ rfl)
  have HO2 := Lib.hid ((hW.2 3).1.2 rfl _ _ rfl)
  have HO3 := Lib.hid ((hW.2 5).2 rfl _ _ rfl)
  clear hW z3
  refine Lex.onlyN_intro ?_
  rw [HN.out] at HO1 ⊢
  go_upto_region 2 with fail
  obtain ⟨w2, hw2⟩ : ∃ w2, w2 = W := ⟨_, rfl⟩
  subst hw2
  have z3 : ∀ W, Ext w2.drew W → W.heap[w.heap.size]? = some (.cells #[.int .i64 sl, .int .i64 nd, .int .u32 rx, .int .u32 rl, .slice A n c] 149 (0, 0)) := fun W hW => (HX1.out.trans (drew_ext hW)).at_ HB.out
  have y2 : ∀ W, Ext w2.drew W → W.cell? ⟨w.heap.size, 2, none⟩ = some (.int .u32 rx) := fun W hW => blk_cell (i := 2) (z3 W hW) (Ext.refl _) rfl
  have y4 : ∀ W, Ext w2.drew W → W.cell? ⟨w.heap.size, 4, none⟩ = some (.slice A n c) := fun W hW => blk_cell (i := 4) (z3 W hW) (Ext.refl _) rfl
  have Z3 := Lib.hid z3
  clear z3
  refine Lex.wp_region_u [0, 1, 2, 3, 4, 5, 6, 7, 8, 9, 10, 11, 12, 13, 14, 15, 16, 17, 18, 19, 20, 21, 22, 23, 24, 25, 26, 27, 28, 29, 30, 31, 32, 33, 34, 35, 36] [] [(1, Lex.Loose.const (.int .i64 n)), (8, Lex.Loose.const (.int .u32 rx)), (30, Lex.Loose.nums .u8 (tableB t).length (tableB t)), (33, Lex.Loose.nums .u8 (tableB t).length (tableB t))] (by kernel_rfl) (by kernel_rfl) (by repeat (first | exact Lex.st_nil | refine Lex.st_cons (by first | exact Lex.nums_st | exact Lex.const_st | exact Lex.such_st | exact Lex.row_st | exact Lex.rowE_st | exact Lex.litR_st | assumption) ?_)) ?_; simp only [Lex.pick, List.getElem?_cons_succ, List.getElem?_cons_zero, List.map_nil]
  repeat (first | (refine Lex.lexU_skip (by rfl) ?_; simp only [Act.put, List.setIfInBounds_toArray, List.set_cons_zero, List.set_cons_succ]) | (refine Lex.lexU_still (by rfl) (by rfl) (by first | exact Base.Ext.refl | exact Lex.Fill.refl) ?_; apply Exists.intro; refine ⟨fun W hW => ?_, ?_⟩; (have hE := Lex.ext_of_cls hW.1; have hE2 := Lex.ext_drew hE; clear hW; go_simp; try with_reducible rfl); simp only [Act.put, List.setIfInBounds_toArray, List.set_cons_zero, List.set_cons_succ]))
  refine Lex.lexU_loose (by rfl) (by rfl) (fun W hW => ?_) ?_
  · have hE := Lex.ext_drew (Lex.ext_of_cls hW.1)
    clear hW
    go_simp
    refine (len_calls gt sl nd t.nx t.ls t.A t.n t.c t.objs W (HT.out.ext (HE1.out.trans hE))).mono ?_
    rintro e w' ⟨rfl, rfl⟩
    rw [HN.out]
    exact ⟨_, rfl, rfl, Ext.refl _, trivial⟩
  rintro v rfl
  simp only [Act.put, List.setIfInBounds_toArray, List.set_cons_zero, List.set_cons_succ]
  repeat (first | (refine Lex.lexU_skip (by rfl) ?_; simp only [Act.put, List.setIfInBounds_toArray, List.set_cons_zero, List.set_cons_succ]) | (refine Lex.lexU_still (by rfl) (by rfl) (by first | exact Base.Ext.refl | exact Lex.Fill.refl) ?_; apply Exists.intro; refine ⟨fun W hW => ?_, ?_⟩; (have hE := Lex.ext_of_cls hW.1; have hE2 := Lex.ext_drew hE; clear hW; go_simp; try with_reducible rfl); simp only [Act.put, List.setIfInBounds_toArray, List.set_cons_zero, List.set_cons_succ]))
  refine Lex.lexU_loose (by rfl) (by rfl) (fun W hW => ?_) ?_
  · have hE := Lex.ext_drew (Lex.ext_of_cls hW.1)
    clear hW
    go_simp
    refine (next_calls gt sl nd t W (HT.out.ext (HE1.out.trans hE))).mono ?_
    rintro e w' ⟨rfl, rfl⟩
    rw [HNX.out]
    exact ⟨_, rfl, rfl, Ext.refl _, trivial⟩
  rintro v rfl
  simp only [Act.put, List.setIfInBounds_toArray, List.set_cons_zero, List.set_cons_succ]
  repeat (first | (refine Lex.lexU_skip (by rfl) ?_; simp only [Act.put, List.setIfInBounds_toArray, List.set_cons_zero, List.set_cons_succ]) | (refine Lex.lexU_still (by rfl) (by rfl) (by first | exact Base.Ext.refl | exact Lex.Fill.refl) ?_; apply Exists.intro; refine ⟨fun W hW => ?_, ?_⟩; (have hE := Lex.ext_of_cls hW.1; have hE2 := Lex.ext_drew hE; clear hW; go_simp; try with_reducible rfl); simp only [Act.put, List.setIfInBounds_toArray, List.set_cons_zero, List.set_cons_succ]))
  refine Lex.lexU_loose (by rfl) (by rfl) (fun W hW => ?_) ?_
  · have hE := Lex.ext_drew (Lex.ext_of_cls hW.1)
    clear hW
    go_simp
    refine (bytes_calls gt sl nd t W (HT.out.ext (HE1.out.trans hE)) HFT.out HG.out.inv.few hsl hnd (by rw [HNX.out]; omega) (by rw [HNX.out]; exact hx1) (by rw [HLS.out]; exact hl0) (by rw [HLS.out]; exact hl1)).mono ?_
    rintro e w' ⟨he, A', c', rfl, ho⟩
    exact ⟨_, rfl, ⟨A', c', rfl⟩, he, Lex.nums_mk (ho.rd (tableB_wf t t.objs rfl))⟩
  rintro v ⟨A4, c4, rfl⟩
  simp only [Act.put, List.setIfInBounds_toArray, List.set_cons_zero, List.set_cons_succ]
  refine Lex.lexU_still (by rfl) (by rfl) Ext.refl ⟨.string (strOfNums (tableB t)), fun W hW => ?_, ?_⟩
  · have hrd := (hW.2 30 (by kernel_rfl)).2 rfl _ _ rfl
    clear hW
    have hs := str8 c4 hrd
    go_simp
  simp only [Act.put, List.setIfInBounds_toArray, List.set_cons_zero, List.set_cons_succ]
  refine Lex.lexU_still (by rfl) (by rfl) Ext.refl ⟨tabV sl nd ⟨rx, rl, A, n, c, objs⟩, fun W hW => ?_, ?_⟩
  · have hE := Lex.ext_of_cls hW.1
    clear hW
    exact exec_load_row 149 (.tmp 3) rfl w.heap.size rfl 149 _ (0, 0) _ (Z3.out W hE) Try.underlying149 rfl (by kernel_rfl)
  simp only [Act.put, List.setIfInBounds_toArray, List.set_cons_zero, List.set_cons_succ]
  refine Lex.lexU_loose (by rfl) (by rfl) (fun W hW => ?_) ?_
  · have hE := Lex.ext_drew (Lex.ext_of_cls hW.1)
    clear hW
    go_simp
    refine (rBytes_calls sl nd ⟨rx, rl, A, n, c, objs⟩ W (Sh.ok_ext (HE1.out.trans hE) _ _ HD.out) HFR.out (by rw [← HG.out.both.eqv.len]; exact HG.out.inv.few) hsl hnd (by show 0 ≤ rx; omega) hx1 hl0 hl1).mono ?_
    rintro e w' ⟨he, A', c', rfl, ho⟩
    rw [← HBY.out] at ho ⊢
    exact ⟨_, rfl, ⟨A', c', rfl⟩, he, Lex.nums_mk (ho.rd (tableB_wf t t.objs rfl))⟩
  rintro v ⟨A5, c5, rfl⟩
  simp only [Act.put, List.setIfInBounds_toArray, List.set_cons_zero, List.set_cons_succ]
  refine Lex.lexU_still (by rfl) (by rfl) Ext.refl ⟨.string (strOfNums (tableB t)), fun W hW => ?_, ?_⟩
  · have hrd := (hW.2 33 (by kernel_rfl)).2 rfl _ _ rfl
    clear hW
    have hs := str8 c5 hrd
    go_simp
  simp only [Act.put, List.setIfInBounds_toArray, List.set_cons_zero, List.set_cons_succ]
  repeat (first | (refine Lex.lexU_skip (by rfl) ?_; simp only [Act.put, List.setIfInBounds_toArray, List.set_cons_zero, List.set_cons_succ]) | (refine Lex.lexU_still (by rfl) (by rfl) (by first | exact Base.Ext.refl | exact Lex.Fill.refl) ?_; apply Exists.intro; refine ⟨fun W hW => ?_, ?_⟩; (have hE := Lex.ext_of_cls hW.1; have hE2 := Lex.ext_drew hE; clear hW; go_simp; try with_reducible rfl); simp only [Act.put, List.setIfInBounds_toArray, List.set_cons_zero, List.set_cons_succ]))
  refine Lex.lexU_nil (fun W hW => ?_)
  have HE2 := Lib.hid (HE1.out.trans (Lex.ext_drew hW.1))
  have HX2 := Lib.hid (HX1.out.trans (Lex.ext_drew hW.1))
  have HO1' := Lib.hid (Own.extNew HO1.out (Lex.ext_drew hW.1))
  have HO2' := Lib.hid (Own.extNew HO2.out (Lex.ext_drew hW.1))
  have HO3' := Lib.hid (Own.extNew HO3.out (Lex.ext_drew hW.1))
  clear hW y2 y4 Z3 HO1 HO2 HO3 HE1 HX1
  refine Lex.onlyN_intro ?_
  go_wp2_with fail
  obtain ⟨w3, hw3⟩ : ∃ w3, w3 = W := ⟨_, rfl⟩
  subst hw3
  generalize hG0 : w.heap.size = g at *
  go_loopg [8] n (fun q i wi => ∃ (k : Nat), k ≤ n ∧ q = n - k ∧ i = .int .i64 (k : Nat) ∧ Hid (Ext w3 wi))
  case atStart => exact ⟨0, Nat.zero_le _, rfl, rfl, Lib.hid (Ext.refl _)⟩
  case round =>
    obtain ⟨k, hk, rfl, rfl, HX⟩ := hrel
    have y4 : wr.cell? ⟨g, 4, none⟩ = some (.slice A n c) := blk_cell (i := 4) HB.out (HX2.out.trans HX.out) rfl
    by_cases hlt : k < n
    · obtain ⟨ad, b, rfl, hob, hcell, hok⟩ := obj_at HD.out hlt
      have hcell2 := hcell.ext (HE2.out.trans HX.out)
      obtain ⟨d0, d1, d2, d3, d4, d5⟩ := hcell2
      obtain ⟨a, hoa, hv⟩ := view_at HG.out.both.eqv.objs.symm hob
      have hki : ((k : Nat) : Int) < ((n : Nat) : Int) := by omega
      have hbr : (rows b).length = pN b := HG.out.both.rp b (List.mem_of_getElem? hob)
      have hokt : objS.ok w a := sl_each (Sh.ok_off HT.out.ok) hoa
      have HOKT := Lib.hid hokt
      have hfd : found t.objs (name b) = some a := by rw [← view_name hv.symm]; exact found_at HG.out.both.sorted hoa
      have hna : numAt t.objs (num b) = k := by rw [← view_num hv.symm]; exact num_at HG.out.inv.apart hoa
      have HV := Lib.hid hv
      have HFD := Lib.hid hfd
      have HNA := Lib.hid hna
      have HOA := Lib.hid hoa
      have HOB := Lib.hid hob
      have HBR := Lib.hid hbr
      have HOK := Lib.hid hok
      have HSM : Hid (∀ o ∈ t.objs, Small o) := Lib.hid fun o ho => (HFT.out o ho).small hsl
      have hgt : gt < w.heap.size := HT.out.lt
      clear hcell hok hbr hokt hfd hna hoa hob hv
      go_wp2_with fail
      refine (find_calls gt sl nd t.nx t.ls t.A t.n t.c t.objs (name b) wr (HT.out.ext (HE2.out.trans HX.out)) (by rw [HN.out]; show n ≤ _; omega) HSM.out).mono ?_
      rw [HFD.out]
      rintro e w4 ht
      obtain ⟨A4', c4', l4, rfl, he4, hok4, hv4⟩ := told_like ht HV.out.symm (Sh.ok_ext (HE2.out.trans HX.out) _ _ HOKT.out) HBR.out (HE2.out.trans HX.out |>.lt hgt)
      have HK4 := Lib.hid hok4
      have HV4 := Lib.hid hv4
      have HX4 := Lib.hid (HX.out.trans he4)
      have HC1 := Lib.hid (he4.cell_ d1)
      clear ht hok4 hv4 he4 y4 d0 d1 d2 d3 d4 d5
      go_upto_region 8 with (refine RowSt.wpList_put 108 _ _ rfl rfl rfl w4.heap.size #[.int .u32 (num b), .string (name b), .int .i64 (pl1 b), .int .i64 (pl2 b), .int .i64 (pl3 b), .slice A4' (pN b) c4'] rfl rfl 108 _ (at_new w4 _) (by kernel_rfl) rfl (by simp [Value.oneCell']) ?_; intro w5 hb5 hc5)
      have hE5 : Ext w4 w5 := (Ext.new w4 _).chg hc5 fun i hi => by have hi : i = w4.heap.size := hi; omega
      have HX5 := Lib.hid (HX4.out.trans hE5)
      have HE45 := Lib.hid hE5
      have HB5 := Lib.hid hb5
      have HK5 := Lib.hid (Sh.ok_ext hE5 _ _ HK4.out)
      clear hb5 hc5 hE5 HX4 HK4
      go_wp2_with fail
      refine (at_calls gt sl nd t.nx t.ls t.A t.n t.c t.objs k w5 (HT.out.ext (HE2.out.trans HX5.out)) (by rw [HN.out]; show n ≤ _; omega) HSM.out (by rw [HN.out]; exact hlt)).mono ?_
      rw [HOA.out]
      rintro e w6 ht
      obtain ⟨A6, c6, l6, rfl, he6, hok6, hv6⟩ := told_like ht HV.out.symm (Sh.ok_ext (HE2.out.trans HX5.out) _ _ HOKT.out) HBR.out (HE2.out.trans HX5.out |>.lt hgt)
      have HK6 := Lib.hid hok6
      have HV6 := Lib.hid hv6
      have HX6 := Lib.hid (HX5.out.trans he6)
      have HE56 := Lib.hid he6
      clear ht hok6 hv6 he6
      go_upto_region 9 with (refine RowSt.wpList_put 108 _ _ rfl rfl rfl w6.heap.size #[.int .u32 (num b), .string (name b), .int .i64 (pl1 b), .int .i64 (pl2 b), .int .i64 (pl3 b), .slice A6 (pN b) c6] rfl rfl 108 _ (at_new w6 _) (by kernel_rfl) rfl (by simp [Value.oneCell']) ?_; intro w7 hb7 hc7)
      have hE7 : Ext w6 w7 := (Ext.new w6 _).chg hc7 fun i hi => by have hi : i = w6.heap.size := hi; omega
      have HX7 := Lib.hid (HX6.out.trans hE7)
      have HE57 := Lib.hid (HE56.out.trans hE7)
      have HB7 := Lib.hid hb7
      have HK7 := Lib.hid (Sh.ok_ext hE7 _ _ HK6.out)
      have y4 : w7.cell? ⟨g, 4, none⟩ = some (.slice (some ad) n c) := blk_cell (i := 4) HB.out (HX2.out.trans HX7.out) rfl
      have HCS := Lib.hid (obj_cells_at HD.out HOB.out rfl)
      have d0 : w7.cell? (ad.add (k * 6)) = some (.int .u32 (num b)) := by
        have h0 := (HE2.out.trans HX7.out).cell_ (HCS.out 0 _ rfl)
        rwa [Base.add_of_add, Nat.add_zero] at h0
      clear hb7 hc7 hE7 HX6 HK6 HE56
      go_wp2_with fail
      refine (numbered_calls gt sl nd t (num b) k w7 (HT.out.ext (HE2.out.trans HX7.out)) (by rw [HN.out]; show n ≤ _; omega) HSM.out HNA.out (by rw [HN.out]; exact hlt)).mono ?_
      rw [HOA.out]
      rintro e w8 ht
      obtain ⟨A8, c8, l8, rfl, he8, hok8, hv8⟩ := told_like ht HV.out.symm (Sh.ok_ext (HE2.out.trans HX7.out) _ _ HOKT.out) HBR.out (HE2.out.trans HX7.out |>.lt hgt)
      have HK8 := Lib.hid hok8
      have HV8 := Lib.hid hv8
      have HX8 := Lib.hid (HX7.out.trans he8)
      have HE78 := Lib.hid he8
      clear ht hok8 hv8 he8 y4 d0
      go_upto_region 10 with (refine RowSt.wpList_put 108 _ _ rfl rfl rfl w8.heap.size #[.int .u32 (num b), .string (name b), .int .i64 (pl1 b), .int .i64 (pl2 b), .int .i64 (pl3 b), .slice A8 (pN b) c8] rfl rfl 108 _ (at_new w8 _) (by kernel_rfl) rfl (by simp [Value.oneCell']) ?_; intro w9 hb9 hc9)
      have hE9 : Ext w8 w9 := (Ext.new w8 _).chg hc9 fun i hi => by have hi : i = w8.heap.size := hi; omega
      have HX9 := Lib.hid (HX8.out.trans hE9)
      have HE79 := Lib.hid (HE78.out.trans hE9)
      have HB9 := Lib.hid hb9
      have HK9 := Lib.hid (Sh.ok_ext hE9 _ _ HK8.out)
      clear hb9 hc9 hE9 HX8 HK8 HE78
      have hname : (nameV t.objs)[k]? = some (.string (name b)) := by rw [nameV, List.getElem?_map, HOA.out, ← view_name HV.out.symm]; rfl
      obtain ⟨an, rfl, hn1⟩ := own_cell HO1'.out hname
      have hnc1 : n ≤ c1 := HO1'.out.cap.1
      have z1 : ∀ W, Ext w9.drew W → W.cell? (an.add k) = some (.string (name b)) := fun W hW => (HX9.out.trans (drew_ext hW)).cell_ hn1
      have HE59 := Lib.hid (HE57.out.trans HE79.out)
      have HE49 := Lib.hid (HE45.out.trans HE59.out)
      have z2 : ∀ W, Ext w9.drew W → W.cell? ⟨g, 4, none⟩ = some (.slice (some ad) n c) := fun W hW => blk_cell (i := 4) HB.out (HX2.out.trans (HX9.out.trans (drew_ext hW))) rfl
      have z3 : ∀ W, Ext w9.drew W → W.cell? ⟨(ad.add (k * 6)).block, (ad.add (k * 6)).off + 1, none⟩ = some (.string (name b)) := fun W hW => (HE49.out.trans (drew_ext hW)).cell_ HC1.out
      refine Lex.wp_region_u [0, 1, 2, 3, 4, 5, 6, 7, 8, 9, 10, 11, 12, 13, 14, 15, 16, 17, 18, 19, 20, 21, 22, 23, 24, 25, 26, 27, 28, 29, 30, 31, 32, 33, 34, 35, 36, 37, 38, 39, 40, 41, 42, 43, 44, 45, 46, 47, 48, 49, 50, 51, 52] [] [(30, Lex.Loose.const (.bool true)), (40, Lex.Loose.const (.bool true)), (50, Lex.Loose.const (.bool true))] (by kernel_rfl) (by kernel_rfl) (by repeat (first | exact Lex.st_nil | refine Lex.st_cons (by first | exact Lex.nums_st | exact Lex.const_st | exact Lex.such_st | exact Lex.row_st | exact Lex.rowE_st | exact Lex.litR_st | assumption) ?_)) ?_; simp only [Lex.pick, List.getElem?_cons_succ, List.getElem?_cons_zero, List.map_nil]
      iterate 24 (first | (refine Lex.lexU_skip (by rfl) ?_; simp only [Act.put, List.setIfInBounds_toArray, List.set_cons_zero, List.set_cons_succ]) | (refine Lex.lexU_still (by rfl) (by rfl) (by first | exact Base.Ext.refl | exact Lex.Fill.refl) ?_; apply Exists.intro; refine ⟨fun W hW => ?_, ?_⟩; (have hE := Lex.ext_of_cls hW.1; have hE2 := Lex.ext_drew hE; clear hW; go_simp; try with_reducible rfl); simp only [Act.put, List.setIfInBounds_toArray, List.set_cons_zero, List.set_cons_succ]))
      refine Lex.lexU_still (by rfl) (by rfl) Ext.refl ⟨.agg #[.int .u32 (num b), .string (name b), .int .i64 (pl1 b), .int .i64 (pl2 b), .int .i64 (pl3 b), .slice A4' (pN b) c4'], fun W hW => ?_, ?_⟩
      · have hE := Lex.ext_of_cls hW.1
        clear hW
        exact exec_load_row 108 (.tmp 9) rfl w4.heap.size rfl 108 _ (0, 0) _ ((HE59.out.trans (drew_ext hE)).at_ HB5.out) Try.underlying108 rfl (by kernel_rfl)
      simp only [Act.put, List.setIfInBounds_toArray, List.set_cons_zero, List.set_cons_succ]
      iterate 4 (first | (refine Lex.lexU_skip (by rfl) ?_; simp only [Act.put, List.setIfInBounds_toArray, List.set_cons_zero, List.set_cons_succ]) | (refine Lex.lexU_still (by rfl) (by rfl) (by first | exact Base.Ext.refl | exact Lex.Fill.refl) ?_; apply Exists.intro; refine ⟨fun W hW => ?_, ?_⟩; (have hE := Lex.ext_of_cls hW.1; have hE2 := Lex.ext_drew hE; clear hW; go_simp; try with_reducible rfl); simp only [Act.put, List.setIfInBounds_toArray, List.set_cons_zero, List.set_cons_succ]))
      refine Lex.lexU_still (by rfl) (by rfl) Ext.refl ⟨.agg (objC b).toArray, fun W hW => ?_, ?_⟩
      · have hE := Lex.ext_of_cls hW.1
        clear hW
        exact exec_load_at 234 (.tmp 122) rfl (ad.add (k * 6)) rfl (objC b) _ (fun j v hv => ((HE2.out.trans HX9.out).trans (drew_ext hE)).cell_ (HCS.out j v hv)) Try.underlying234 rfl (by kernel_rfl)
      simp only [Act.put, List.setIfInBounds_toArray, List.set_cons_zero, List.set_cons_succ]
      refine Lex.lexU_loose (by rfl) (by rfl) (fun W hW => ?_) ?_
      · have hE := Lex.ext_drew (Lex.ext_of_cls hW.1)
        clear hW
        go_simp
        refine (is_calls (num b) (name b) (pl1 b) (pl2 b) (pl3 b) A4' (pA b) (pN b) c4' (pC b) l4 (rows b) W (Sh.ok_ext (HE59.out.trans hE) _ _ HK5.out) (Sh.ok_ext ((HE2.out.trans HX9.out).trans hE) _ _ (obj_ok HOK.out).2.2.2) HV4.out).mono ?_
        rintro e w' ⟨rfl, he⟩
        exact ⟨_, rfl, rfl, he, trivial⟩
      rintro v rfl
      simp only [Act.put, List.setIfInBounds_toArray, List.set_cons_zero, List.set_cons_succ]
      iterate 3 (first | (refine Lex.lexU_skip (by rfl) ?_; simp only [Act.put, List.setIfInBounds_toArray, List.set_cons_zero, List.set_cons_succ]) | (refine Lex.lexU_still (by rfl) (by rfl) (by first | exact Base.Ext.refl | exact Lex.Fill.refl) ?_; apply Exists.intro; refine ⟨fun W hW => ?_, ?_⟩; (have hE := Lex.ext_of_cls hW.1; have hE2 := Lex.ext_drew hE; clear hW; go_simp; try with_reducible rfl); simp only [Act.put, List.setIfInBounds_toArray, List.set_cons_zero, List.set_cons_succ]))
      refine Lex.lexU_still (by rfl) (by rfl) Ext.refl ⟨.agg #[.int .u32 (num b), .string (name b), .int .i64 (pl1 b), .int .i64 (pl2 b), .int .i64 (pl3 b), .slice A6 (pN b) c6], fun W hW => ?_, ?_⟩
      · have hE := Lex.ext_of_cls hW.1
        clear hW
        exact exec_load_row 108 (.tmp 11) rfl w6.heap.size rfl 108 _ (0, 0) _ ((HE79.out.trans (drew_ext hE)).at_ HB7.out) Try.underlying108 rfl (by kernel_rfl)
      simp only [Act.put, List.setIfInBounds_toArray, List.set_cons_zero, List.set_cons_succ]
      iterate 4 (first | (refine Lex.lexU_skip (by rfl) ?_; simp only [Act.put, List.setIfInBounds_toArray, List.set_cons_zero, List.set_cons_succ]) | (refine Lex.lexU_still (by rfl) (by rfl) (by first | exact Base.Ext.refl | exact Lex.Fill.refl) ?_; apply Exists.intro; refine ⟨fun W hW => ?_, ?_⟩; (have hE := Lex.ext_of_cls hW.1; have hE2 := Lex.ext_drew hE; clear hW; go_simp; try with_reducible rfl); simp only [Act.put, List.setIfInBounds_toArray, List.set_cons_zero, List.set_cons_succ]))
      refine Lex.lexU_still (by rfl) (by rfl) Ext.refl ⟨.agg (objC b).toArray, fun W hW => ?_, ?_⟩
      · have hE := Lex.ext_of_cls hW.1
        clear hW
        exact exec_load_at 234 (.tmp 132) rfl (ad.add (k * 6)) rfl (objC b) _ (fun j v hv => ((HE2.out.trans HX9.out).trans (drew_ext hE)).cell_ (HCS.out j v hv)) Try.underlying234 rfl (by kernel_rfl)
      simp only [Act.put, List.setIfInBounds_toArray, List.set_cons_zero, List.set_cons_succ]
      refine Lex.lexU_loose (by rfl) (by rfl) (fun W hW => ?_) ?_
      · have hE := Lex.ext_drew (Lex.ext_of_cls hW.1)
        clear hW
        go_simp
        refine (is_calls (num b) (name b) (pl1 b) (pl2 b) (pl3 b) A6 (pA b) (pN b) c6 (pC b) l6 (rows b) W (Sh.ok_ext (HE79.out.trans hE) _ _ HK7.out) (Sh.ok_ext ((HE2.out.trans HX9.out).trans hE) _ _ (obj_ok HOK.out).2.2.2) HV6.out).mono ?_
        rintro e w' ⟨rfl, he⟩
        exact ⟨_, rfl, rfl, he, trivial⟩
      rintro v rfl
      simp only [Act.put, List.setIfInBounds_toArray, List.set_cons_zero, List.set_cons_succ]
      iterate 3 (first | (refine Lex.lexU_skip (by rfl) ?_; simp only [Act.put, List.setIfInBounds_toArray, List.set_cons_zero, List.set_cons_succ]) | (refine Lex.lexU_still (by rfl) (by rfl) (by first | exact Base.Ext.refl | exact Lex.Fill.refl) ?_; apply Exists.intro; refine ⟨fun W hW => ?_, ?_⟩; (have hE := Lex.ext_of_cls hW.1; have hE2 := Lex.ext_drew hE; clear hW; go_simp; try with_reducible rfl); simp only [Act.put, List.setIfInBounds_toArray, List.set_cons_zero, List.set_cons_succ]))
      refine Lex.lexU_still (by rfl) (by rfl) Ext.refl ⟨.agg #[.int .u32 (num b), .string (name b), .int .i64 (pl1 b), .int .i64 (pl2 b), .int .i64 (pl3 b), .slice A8 (pN b) c8], fun W hW => ?_, ?_⟩
      · have hE := Lex.ext_of_cls hW.1
        clear hW
        exact exec_load_row 108 (.tmp 13) rfl w8.heap.size rfl 108 _ (0, 0) _ ((drew_ext hE).at_ HB9.out) Try.underlying108 rfl (by kernel_rfl)
      simp only [Act.put, List.setIfInBounds_toArray, List.set_cons_zero, List.set_cons_succ]
      iterate 4 (first | (refine Lex.lexU_skip (by rfl) ?_; simp only [Act.put, List.setIfInBounds_toArray, List.set_cons_zero, List.set_cons_succ]) | (refine Lex.lexU_still (by rfl) (by rfl) (by first | exact Base.Ext.refl | exact Lex.Fill.refl) ?_; apply Exists.intro; refine ⟨fun W hW => ?_, ?_⟩; (have hE := Lex.ext_of_cls hW.1; have hE2 := Lex.ext_drew hE; clear hW; go_simp; try with_reducible rfl); simp only [Act.put, List.setIfInBounds_toArray, List.set_cons_zero, List.set_cons_succ]))
      refine Lex.lexU_still (by rfl) (by rfl) Ext.refl ⟨.agg (objC b).toArray, fun W hW => ?_, ?_⟩
      · have hE := Lex.ext_of_cls hW.1
        clear hW
        exact exec_load_at 234 (.tmp 142) rfl (ad.add (k * 6)) rfl (objC b) _ (fun j v hv => ((HE2.out.trans HX9.out).trans (drew_ext hE)).cell_ (HCS.out j v hv)) Try.underlying234 rfl (by kernel_rfl)
      simp only [Act.put, List.setIfInBounds_toArray, List.set_cons_zero, List.set_cons_succ]
      refine Lex.lexU_loose (by rfl) (by rfl) (fun W hW => ?_) ?_
      · have hE := Lex.ext_drew (Lex.ext_of_cls hW.1)
        clear hW
        go_simp
        refine (is_calls (num b) (name b) (pl1 b) (pl2 b) (pl3 b) A8 (pA b) (pN b) c8 (pC b) l8 (rows b) W (Sh.ok_ext ((Ext.refl w9).trans hE) _ _ HK9.out) (Sh.ok_ext ((HE2.out.trans HX9.out).trans hE) _ _ (obj_ok HOK.out).2.2.2) HV8.out).mono ?_
        rintro e w' ⟨rfl, he⟩
        exact ⟨_, rfl, rfl, he, trivial⟩
      rintro v rfl
      simp only [Act.put, List.setIfInBounds_toArray, List.set_cons_zero, List.set_cons_succ]
      repeat (first | (refine Lex.lexU_skip (by rfl) ?_; simp only [Act.put, List.setIfInBounds_toArray, List.set_cons_zero, List.set_cons_succ]) | (refine Lex.lexU_still (by rfl) (by rfl) (by first | exact Base.Ext.refl | exact Lex.Fill.refl) ?_; apply Exists.intro; refine ⟨fun W hW => ?_, ?_⟩; (have hE := Lex.ext_of_cls hW.1; have hE2 := Lex.ext_drew hE; clear hW; go_simp; try with_reducible rfl); simp only [Act.put, List.setIfInBounds_toArray, List.set_cons_zero, List.set_cons_succ]))
      refine Lex.lexU_nil (fun W hW => ?_)
      have HXN := Lib.hid (HX9.out.trans (Lex.ext_drew hW.1))
      clear hW z1 z2 z3
      refine Lex.onlyN_intro ?_
      go_wp2_with fail
      go_roundg (n - (k + 1))
      case measure => omega
      case rel => exact ⟨k + 1, by omega, rfl, by first | rfl | go_num, HXN⟩
    · obtain rfl : k = n := by omega
      have hul := useOf_len nd (t.objs.flatMap plsOf)
      have HUL := Lib.hid hul
      clear hul
      go_wp2_with fail
      clear y4
      obtain ⟨w4, hw4⟩ : ∃ w4, w4 = wr := ⟨_, rfl⟩
      subst hw4
      have HO2'' := Lib.hid (Own.extNew HO2'.out HX.out)
      have HO3'' := Lib.hid (Own.extNew HO3'.out HX.out)
      have hc2 := HO2'.out.cap
      have hc3 := HO3'.out.cap
      go_loopg [15] nd (fun q i wi => ∃ (j : Nat), j ≤ nd ∧ q = nd - j ∧ i = .int .i64 (j : Nat) ∧ Hid (Ext w4 wi))
      case atStart => exact ⟨0, Nat.zero_le _, rfl, rfl, Lib.hid (Ext.refl _)⟩
      case round =>
        obtain ⟨j, hj, rfl, rfl, HY⟩ := hrel
        by_cases hlt : j < nd
        · obtain ⟨u, hu⟩ : ∃ u, (useOf nd (t.objs.flatMap plsOf))[j]? = some u := ⟨_, List.getElem?_eq_getElem (by rw [HUL.out]; exact hlt)⟩
          have hu2 : (nums .i64 (useOf nd (t.objs.flatMap plsOf)))[j]? = some (.int .i64 u) := by rw [nums, List.getElem?_map, hu]; rfl
          obtain ⟨a2, rfl, h2⟩ := own_cell HO2''.out hu2
          obtain ⟨a3, rfl, h3⟩ := own_cell HO3''.out hu2
          have hji : ((j : Nat) : Int) < ((nd : Nat) : Int) := by omega
          have hnc2 : nd ≤ c2 := hc2.1
          have hnc3 : nd ≤ c3 := hc3.1
          clear hu hu2 hc2 hc3
          go_upto_region 15 with fail
          have z2 : ∀ W, Ext wr.drew W → W.cell? (a2.add j) = some (.int .i64 u) := fun W hW => (HY.out.trans (drew_ext hW)).cell_ h2
          have z3 : ∀ W, Ext wr.drew W → W.cell? (a3.add j) = some (.int .i64 u) := fun W hW => (HY.out.trans (drew_ext hW)).cell_ h3
          clear h2 h3
          refine Lex.wp_region_u [0, 1, 2, 3, 4, 5, 6, 7, 8] [] [] (by kernel_rfl) (by kernel_rfl) (by repeat (first | exact Lex.st_nil | refine Lex.st_cons (by first | exact Lex.nums_st | exact Lex.const_st | exact Lex.such_st | exact Lex.row_st | exact Lex.rowE_st | exact Lex.litR_st | assumption) ?_)) ?_; simp only [Lex.pick, List.getElem?_cons_succ, List.getElem?_cons_zero, List.map_nil]
          repeat (first | (refine Lex.lexU_skip (by rfl) ?_; simp only [Act.put, List.setIfInBounds_toArray, List.set_cons_zero, List.set_cons_succ]) | (refine Lex.lexU_still (by rfl) (by rfl) (by first | exact Base.Ext.refl | exact Lex.Fill.refl) ?_; apply Exists.intro; refine ⟨fun W hW => ?_, ?_⟩; (have hE := Lex.ext_of_cls hW.1; have hE2 := Lex.ext_drew hE; clear hW; go_simp; try with_reducible rfl); simp only [Act.put, List.setIfInBounds_toArray, List.set_cons_zero, List.set_cons_succ]))
          refine Lex.lexU_nil (fun W hW => ?_)
          have HY2 : Hid (Ext w4 W) := Lib.hid (HY.out.trans (Lex.ext_drew hW.1))
          clear hW z2 z3 HY
          refine Lex.onlyN_intro ?_
          go_wp2_with fail
          go_roundg (nd - (j + 1))
          case measure => omega
          case rel => exact ⟨j + 1, by omega, rfl, by first | rfl | go_num, HY2⟩
        · obtain rfl : j = nd := by omega
          go_wp2_with fail
          go_ret
          exact ⟨rfl, (HE2.out.trans HX.out).trans HY.out⟩
end Go.Proofs.Ytfhgjopoohfhjaa.Tbl
