/- TablePlays, walked. -/
import Derived.Test.YtfhgjopoohfhjaaTableGood
import Derived.Test.YtfhgjopoohfhjaaTableT
import Derived.Test.YtfhgjopoohfhjaaFill
import Derived.Test.YtfhgjopoohfhjaaTableMask
namespace Go.Proofs.Ytfhgjopoohfhjaa.Tbl
open Go.RowKit Base Step Vec Shape Erase
section
variable {P : Program}
theorem exec_store_row {o : Oper} {a : Act} {w : World} (ty : TypeId) (x y : Operand) (ho : o.op = .store ty x y) (g : Nat) (cells : Array Value) (hx : a.eval x = .pointer (some ⟨g, 0, none⟩)) (hy : a.eval y = .agg cells)
    (t : TypeId) (old : Array Value) (hg : w.heap[g]? = some (.cells old t (0, 0))) (hi : (P.info? ty).map (·.size) = some cells.size) (hold : old.size = cells.size) (h1 : cells.all (·.oneCell') = true) :
    ∃ w', (execOp a.eval o).run P w = .ok .skip w' ∧ w'.heap[g]? = some (.cells cells t (0, 0)) ∧ Chg (fun i => i = g) w w' := by
  refine ⟨w.setRow g cells, ?_, setRow_heap w g old cells t (0, 0) hg, RowSt.chg_setRow w g cells⟩
  unfold execOp
  simp only [ho, hx, hy, Instr.storeAt, Instr.sureAddr, Sem.run_bind, Sem.run_pure, Result.andThen_ok, run_storeVar_row w g t ty old cells hg hi hold h1]
theorem such_store {o : Oper} {a : Act} {w : World} (ty : TypeId) (x y : Operand) (ho : o.op = .store ty x y) (g : Nat) (cells : Array Value) (hx : a.eval x = .pointer (some ⟨g, 0, none⟩)) (hy : a.eval y = .agg cells)
    (t : TypeId) (old : Array Value) (hg : w.heap[g]? = some (.cells old t (0, 0))) (hi : (P.info? ty).map (·.size) = some cells.size) (hold : old.size = cells.size) (h1 : cells.all (·.oneCell') = true)
    {T : Value → Prop} {E : World → World → Prop} {R : Value → World → Prop} (hk : ∀ w', w'.heap[g]? = some (.cells cells t (0, 0)) → Chg (fun i => i = g) w w' → T undef ∧ E w w' ∧ R undef w') :
    match (execOp a.eval o).run P w with | .ok (.value v) W' => T v ∧ E w W' ∧ R v W' | .ok .skip W' => T undef ∧ E w W' ∧ R undef W' | _ => False := by
  obtain ⟨w', h2, h3, h4⟩ := exec_store_row (P := P) ty x y ho g cells hx hy t old hg hi hold h1
  rw [h2]
  exact hk w' h3 h4
end
theorem ops_cells_at {w : World} {A : Option Addr} {n c : Nat} {l : List opS.T} (h : (Sh.sl opS).ok w (A, n, c, l)) {i : Nat} {d : opS.T} (hd : l[i]? = some d) {ad : Addr} (hA : A = some ad) : ∀ j v, (opL (opOf d))[j]? = some v → w.cell? ((ad.add (i * 11)).add j) = some v := by
  obtain ⟨h1, h2, h3, h4, h5⟩ : l.length = n ∧ n ≤ c ∧ c ≤ maxLen ∧ (A = none → c = 0) ∧ ∀ (i : Nat) (x : opS.T), l[i]? = some x → opS.ok w x ∧ ∃ ad, A = some ad ∧ ∀ (j : Nat) u, (opS.cells x)[j]? = some u → w.cell? (ad.add (i * opS.size + j)) = some u := h
  intro j v hv
  obtain ⟨_, ad', ha', hc⟩ := h5 i d hd
  rw [hA] at ha'
  cases ha'
  rw [Base.add_of_add]
  exact hc j v hv
/-- The document's table reads on, whatever is laid and whatever boxes are written. -/
def KeptD (w0 wr W : World) (r : Tb) : Prop := ∀ V, Sub w0 V → (∀ i o, wr.heap.size ≤ i → W.heap[i]? = some o → plainO o = false → V.heap[i]? = some o) → Doc V r
/-- The document's answer to an operation. -/
def playP (w0 wr : World) (sl nd : Nat) (r : Tb) (o : Op) (c : Array Value) (W : World) : Prop := ∃ r', c = tabC sl nd r' ∧ RApplyR sl nd r o r' ∧ KeptD w0 wr W r'
theorem playP_st {w0 wr w1 : World} {sl nd : Nat} {r : Tb} {o : Op} {p : Array Value → World → Prop} : ∀ c a b, playP w0 wr sl nd r o c a → Lex.Fill w1 149 p a b → playP w0 wr sl nd r o c b := fun c a b ⟨r', h1, h2, h3⟩ he => ⟨r', h1, h2, fun V hV hk => h3 V hV fun i o' hi ho hp => hk i o' hi (by
  rcases he.block i (Array.getElem?_eq_some_iff.1 ho).1 with k | ⟨_, d1, d2, k2, _⟩
  · rw [k]; exact ho
  · rw [ho] at k2
    cases k2
    rw [show plainO (.cells d1 149 (0, 0)) = true from rfl] at hp
    cases hp) hp⟩
theorem playP_put {w0 wr W w' : World} {sl nd g : Nat} {r : Tb} {o : Op} {c old : Array Value} (h : playP w0 wr sl nd r o c W) (hg : W.heap[g]? = some (.cells old 149 (0, 0))) (hc : Chg (fun i => i = g) W w') : playP w0 wr sl nd r o c w' := by
  obtain ⟨r', h1, h2, h3⟩ := h
  refine ⟨r', h1, h2, fun V hV hk => h3 V hV fun i o' hi ho hp => hk i o' hi (hc.at_ ho fun e => ?_) hp⟩
  have e : i = g := e
  rw [e, hg] at ho
  cases ho
  rw [show plainO (.cells old 149 (0, 0)) = true from rfl] at hp
  cases hp
def playF (w0 wr : World) (sl nd : Nat) (r : Tb) (o : Op) : Lex.Loose := ⟨fun v => ∃ ra, v = .tuple #[tabV sl nd ra, .int .i64 (rApplyC sl nd r o)], fun v W => ∀ ra, v = .tuple #[tabV sl nd ra, .int .i64 (rApplyC sl nd r o)] → playP w0 wr sl nd r o (tabC sl nd ra) W⟩
theorem playF_st {w0 wr w1 : World} {sl nd : Nat} {r : Tb} {o : Op} {p : Array Value → World → Prop} : (playF w0 wr sl nd r o).St (Lex.Fill w1 149 p) := fun _ _ _ h he ra e => playP_st _ _ _ (h ra e) he
theorem TbAt.plainB {w W : World} {gt sl nd : Nat} {t : Tb} {S : Nat → Prop} (h : TbAt w gt sl nd t) (hc : Chg S w W) (hS : ∀ i, S i → ∃ cs T f, w.heap[i]? = some (.cells cs T f) ∧ plainT T = true) : TbAt W gt sl nd t :=
  ⟨hc.at_ h.at_ (fun k => by
    obtain ⟨cs, T, f, h1, h2⟩ := hS _ k
    rw [h.at_] at h1
    cases h1
    exact absurd h2 (by decide)), Sh.ok_plain h.ok hc hS⟩
/-- The law under way. -/
structure PlSt (w W : World) (gt gr sl nd : Nat) (t r : Tb) : Prop where
  tb : TbAt W gt sl nd t
  doc : (Sh.sl objS).ok (mask W w.heap.size gt) (r.A, r.n, r.c, r.objs)
  box : W.heap[gr]? = some (.cells (tabC sl nd r) 149 (0, 0))
  good : Good sl nd t r
  gt0 : w.heap.size ≤ gt
  gr0 : w.heap.size ≤ gr
  ext : Ext w W
theorem PlSt.ext_ {w W W' : World} {gt gr sl nd : Nat} {t r : Tb} (h : PlSt w W gt gr sl nd t r) (he : Ext W W') : PlSt w W' gt gr sl nd t r :=
  ⟨h.tb.ext he, Sh.ok_le (mask_ext he) _ _ h.doc, he.at_ h.box, h.good, h.gt0, h.gr0, h.ext.trans he⟩
set_option maxRecDepth 100000 in
set_option maxHeartbeats 8000000 in
theorem plays_row (slots nodes : Int) (A : Option Addr) (n c : Nat) (l : List opS.T) (w : World) (h0 : (Lit.int .u8 slots).wf = true) (h1 : (Lit.int .u8 nodes).wf = true) (h : (Sh.sl opS).ok w (A, n, c, l)) (hs : (Sh.sl opS).small Try.prog 98 (A, n, c, l)) :
    Calls Try.prog 12 #[.int .u8 slots, .int .u8 nodes, .slice A n c] w fun e w' => e = .returned (.bool true) ∧ Ext w w' := by
  have HSM := Lib.hid (op_small hs)
  have H := Lib.hid h
  have hnc := (sl_len h).2.1
  obtain ⟨s0, rfl, hs0⟩ : ∃ s0 : Nat, slots = s0 ∧ s0 < 256 := ⟨slots.toNat, by have := wf_u8 h0; omega, by have := wf_u8 h0; omega⟩
  obtain ⟨m0, rfl, hm0⟩ : ∃ m0 : Nat, nodes = m0 ∧ m0 < 256 := ⟨nodes.toNat, by have := wf_u8 h1; omega, by have := wf_u8 h1; omega⟩
  clear h hs h0 h1
  go_enter Try.func12, Try.ntmps12
  go_wp2_with fail
  refine (awake_calls w).mono ?_
  rintro e w1 ⟨rfl, he1⟩
  have HE1 := Lib.hid he1
  clear he1
  go_wp2_with fail
  refine (light_calls A n c l w1 (Sh.ok_ext HE1.out _ _ H.out)).mono ?_
  rintro e w2 ⟨he2, b, rfl, hb⟩
  have HE2 := Lib.hid (HE1.out.trans he2)
  clear he2
  cases b with
  | false =>
    clear hb
    go_wp2_with fail
    refine (awake_calls w2).mono ?_
    rintro e w3 ⟨rfl, he3⟩
    have HE3 := Lib.hid (HE2.out.trans he3)
    clear he3
    go_wp2_with fail
    go_ret
    exact ⟨rfl, HE3.out⟩
  | true =>
    have hl := hb rfl
    have hn30 := hl.len
    have HL := Lib.hid hl.each
    clear hb hl
    go_upto_region 6 with fail
    obtain ⟨sl, hsl, hsl1, hsl2⟩ : ∃ sl : Nat, 1 + (s0 : Int) % 24 = sl ∧ 1 ≤ sl ∧ sl ≤ 24 := ⟨1 + s0 % 24, by omega, by omega, by omega⟩
    obtain ⟨nd, hnd, hnd1, hnd2⟩ : ∃ nd : Nat, 1 + (m0 : Int) % 32 = nd ∧ 1 ≤ nd ∧ nd ≤ 32 := ⟨1 + m0 % 32, by omega, by omega, by omega⟩
    rw [hsl, hnd]
    clear hsl hnd
    go_wp2_with fail
    refine (new_calls sl nd w2 hsl1 hsl2 hnd1 hnd2).mono ?_
    rintro e w3 ⟨rfl, he3, ht3⟩
    have HT3 := Lib.hid ht3
    have HE3 := Lib.hid he3
    have hgw : w.heap.size ≤ w2.heap.size := HE2.out.size
    clear he3 ht3
    generalize hgt : w2.heap.size = gt at *
    go_wp2_with fail
    refine (rNew_calls sl nd w3).mono ?_
    rintro e w4 ⟨rfl, he4, hd4⟩
    have HE4 := Lib.hid he4
    clear he4 hd4
    go_upto_region 8 with (refine RowSt.wpList_put 149 _ _ rfl rfl rfl w4.heap.size (tabC sl nd ⟨1, 0, none, 0, 0, []⟩) rfl rfl 149 _ (at_new w4 _) (by kernel_rfl) rfl (by simp [Value.oneCell']) ?_; intro w5 hb5 hc5)
    have hE5 : Ext w4 w5 := (Ext.new w4 _).chg hc5 fun i hi => by have hi : i = w4.heap.size := hi; omega
    have HST : Hid (PlSt w w5 gt w4.heap.size sl nd ⟨1, 0, none, 0, 0, []⟩ ⟨1, 0, none, 0, 0, []⟩) := Lib.hid ⟨HT3.out.ext (HE4.out.trans hE5), ⟨rfl, Nat.le_refl _, by decide, fun _ => rfl, fun i x hx => by simp at hx⟩, hb5, good_new sl nd, hgw, Nat.le_trans HE2.out.size (Nat.le_trans HE3.out.size HE4.out.size), ((HE2.out.trans HE3.out).trans HE4.out).trans hE5⟩
    clear hb5 hc5 hE5 HT3 HE3 HE4
    generalize w4.heap.size = gr at *
    go_wp2_with fail
    obtain ⟨w6, hw6⟩ : ∃ w6, w6 = w5 := ⟨_, rfl⟩
    subst hw6
    go_loopg [12] n (fun g i wr => ∃ (k : Nat) (t r : Tb), k ≤ n ∧ g = n - k ∧ i = .int .i64 (k : Nat) ∧ Hid (PlSt w wr gt gr sl nd t r))
    case atStart => exact ⟨0, _, _, Nat.zero_le _, rfl, rfl, HST⟩
    case round =>
      clear HST
      obtain ⟨k, t, r, hk, rfl, rfl, HST⟩ := hrel
      by_cases hlt : k < n
      · obtain ⟨ad, d, rfl, hd, hcl, hok⟩ := op_at H.out hlt
        have hdm := List.mem_of_getElem? hd
        have hopat := op_opAt hok (HL.out d hdm).1 (HL.out d hdm).2 (HSM.out d hdm)
        have HOP := Lib.hid hopat
        have hop40 := (HL.out d hdm).1
        have HCL := Lib.hid hcl
        have HCS := Lib.hid (ops_cells_at H.out hd rfl)
        have hki : ((k : Nat) : Int) < ((n : Nat) : Int) := by omega
        clear hcl hok hd hdm hopat
        generalize opOf d = o at *
        go_upto_region 13 with fail
        have HOP0 : Hid (OpAt (mask wr w.heap.size gt) o) := Lib.hid (HOP.out.sub (mask_old HST.out.ext))
        have hsF : (playF (mask wr w.heap.size gt) wr sl nd r o).St (Lex.Fill wr 149 (playP (mask wr w.heap.size gt) wr sl nd r o)) := playF_st
        refine Lex.wp_region_fill [0, 1, 2, 3, 4, 5, 6, 7, 8, 9, 10, 11] [] 149 (playP (mask wr w.heap.size gt) wr sl nd r o) playP_st [(5, playF (mask wr w.heap.size gt) wr sl nd r o)] (by kernel_rfl) (by kernel_rfl) (by repeat (first | exact Lex.st_nil | refine Lex.st_cons (by first | exact Lex.const_stF | exact Lex.such_stF | exact Lex.row_stF (by decide) | assumption) ?_)) ?_; simp only [Lex.pick, List.getElem?_cons_succ, List.getElem?_cons_zero, List.map_cons, List.map_nil]
        clear hsF
        refine Lex.lexU_still (by rfl) (by rfl) Lex.Fill.refl ⟨tabV sl nd r, fun W hW => ?_, ?_⟩
        · have hE := Lex.ext_of_cls hW.1
          clear hW
          exact exec_load_row 149 (.tmp 11) rfl gr rfl 149 _ (0, 0) _ ((drew_ext hE).at_ HST.out.box) Try.underlying149 rfl (by kernel_rfl)
        simp only [Act.put, List.setIfInBounds_toArray, List.set_cons_zero, List.set_cons_succ]
        iterate 3 (first | (refine Lex.lexU_skip (by rfl) ?_; simp only [Act.put, List.setIfInBounds_toArray, List.set_cons_zero, List.set_cons_succ]) | (refine Lex.lexU_still (by rfl) (by rfl) (by first | exact Base.Ext.refl | exact Lex.Fill.refl) ?_; apply Exists.intro; refine ⟨fun W hW => ?_, ?_⟩; (have hE := Lex.ext_of_cls hW.1; have hE2 := Lex.ext_drew hE; clear hW; go_simp; try with_reducible rfl); simp only [Act.put, List.setIfInBounds_toArray, List.set_cons_zero, List.set_cons_succ]))
        refine Lex.lexU_still (by rfl) (by rfl) Lex.Fill.refl ⟨opV o, fun W hW => ?_, ?_⟩
        · have hE := Lex.ext_of_cls hW.1
          clear hW
          exact exec_load_at 116 (.tmp 54) rfl (ad.add (k * 11)) rfl (opL o) _ (fun j v hv => (HST.out.ext.trans (drew_ext hE)).cell_ (HCS.out j v hv)) Try.underlying116 rfl (by kernel_rfl)
        simp only [Act.put, List.setIfInBounds_toArray, List.set_cons_zero, List.set_cons_succ]
        refine Lex.lexU_loose (by rfl) (by rfl) (fun W hW => ?_) ?_
        · have hE := Lex.ext_drew (Lex.ext_of_cls hW.1)
          clear hW
          go_simp
          refine (rApply_calls sl nd r o (mask wr w.heap.size gt) W (fun a v hc => hE.cell_ (mask_cell' hc).1) HST.out.doc (by rw [← HST.out.good.both.rn, ← HST.out.good.both.eqv.len]; have := HST.out.good.inv.few; omega) (fun ob hob => (HST.out.good.fr ob hob).small hsl2) (fun ob hob r hr => ((HST.out.good.fr ob hob).each r hr).1) HOP0.out (by rw [← HST.out.good.both.eqv.nx]; have := HST.out.good.inv.x0; omega) (by rw [← HST.out.good.both.eqv.nx]; exact HST.out.good.inv.x1)).mono ?_
          rintro e w' ⟨r', rfl, he, hkk, hr⟩
          refine ⟨_, rfl, ⟨r', rfl⟩, Lex.Fill.of_ext he, fun ra e => ⟨r', ?_, hr, fun V hV h2 => hkk V hV fun i o' hi ho hp => h2 i o' (Nat.le_trans hE.size hi) ho hp⟩⟩
          have e2 := congrArg (fun v => match v with | .tuple xs => xs[0]! | _ => undef) e
          have e3 : tabV sl nd r' = tabV sl nd ra := e2
          exact (Value.agg.inj e3).symm
        rintro v ⟨ra, rfl⟩
        simp only [Act.put, List.setIfInBounds_toArray, List.set_cons_zero, List.set_cons_succ]
        iterate 3 (first | (refine Lex.lexU_skip (by rfl) ?_; simp only [Act.put, List.setIfInBounds_toArray, List.set_cons_zero, List.set_cons_succ]) | (refine Lex.lexU_still (by rfl) (by rfl) (by first | exact Base.Ext.refl | exact Lex.Fill.refl) ?_; apply Exists.intro; refine ⟨fun W hW => ?_, ?_⟩; (have hE := Lex.ext_of_cls hW.1; have hE2 := Lex.ext_drew hE; clear hW; go_simp; try with_reducible rfl); simp only [Act.put, List.setIfInBounds_toArray, List.set_cons_zero, List.set_cons_succ]))
        refine Lex.lexU_such (by rfl) (by rfl) (Lex.laidF wr 149 5) (Lex.laidF_st) (fun W hW => ?_) ?_
        · have hE := Lex.ext_drew (Lex.ext_of_cls hW.1)
          clear hW
          go_simp
          exact ⟨⟨_, rfl⟩, Lex.Fill.of_ext (Ext.new _ _), Lex.laidF_mk rfl hE.size⟩
        rintro v ⟨g13, rfl⟩
        simp only [Act.put, List.setIfInBounds_toArray, List.set_cons_zero, List.set_cons_succ]
        refine Lex.lexU_such (by rfl) (by rfl) (Lex.filledF 149 (playP (mask wr w.heap.size gt) wr sl nd r o) g13) (Lex.filledF_st playP_st) (fun W hW => ?_) ?_
        · obtain ⟨hg, c, hcs, hc⟩ := Lex.upd_here (hW.2 9 (by kernel_rfl)) _ rfl
          have hp := (hW.2 5 (by kernel_rfl)).1.2 rfl _ rfl
          clear hW
          refine such_store 149 (.tmp 13) (.tmp 57) rfl g13 (tabC sl nd ra) rfl rfl 149 c hc (by kernel_rfl) hcs (by simp [Value.oneCell']) fun w' h2 h3 => ?_
          have hf : Lex.Fill wr 149 (playP (mask wr w.heap.size gt) wr sl nd r o) W w' := Lex.Fill.mk_ hg h3 hc h2 hcs.symm (playP_put hp hc h3)
          exact ⟨rfl, hf, _, h2, playP_put hp hc h3⟩
        rintro v rfl
        simp only [Act.put, List.setIfInBounds_toArray, List.set_cons_zero, List.set_cons_succ]
        repeat (first | (refine Lex.lexU_skip (by rfl) ?_; simp only [Act.put, List.setIfInBounds_toArray, List.set_cons_zero, List.set_cons_succ]) | (refine Lex.lexU_still (by rfl) (by rfl) (by first | exact Base.Ext.refl | exact Lex.Fill.refl) ?_; apply Exists.intro; refine ⟨fun W hW => ?_, ?_⟩; (have hE := Lex.ext_of_cls hW.1; have hE2 := Lex.ext_drew hE; clear hW; go_simp; try with_reducible rfl); simp only [Act.put, List.setIfInBounds_toArray, List.set_cons_zero, List.set_cons_succ]))
        refine Lex.lexU_nil (fun W hW => ?_)
        have h9 := (hW.2 9).1.2 rfl _ rfl
        obtain ⟨c13, hc13, r', rfl, hRA, hKD⟩ := (hW.2 10).2 rfl
        have hE := Lex.ext_drew (Lex.ext_of_cls hW.1)
        clear hW
        have hgtl : gt < wr.heap.size := HST.out.tb.lt
        have HD1 : Hid ((Sh.sl objS).ok (mask W w.heap.size gt) (r'.A, r'.n, r'.c, r'.objs)) := Lib.hid (hKD (mask W w.heap.size gt) (mask_ext hE) fun i o' hi ho hp => mask_at ho fun q => q.2.elim (fun q => by omega) fun q => by rw [hp] at q; cases q)
        have HRA := Lib.hid hRA
        have HB13 := Lib.hid hc13
        have HST1 := Lib.hid (HST.out.ext_ hE)
        have h913 := h9.1
        clear hKD hRA hc13 h9 hE HOP0 HST hgtl
        refine Lex.onlyN_intro ?_
        go_upto_region 15 with (first | (refine wpList_load_rowG rfl 149 _ rfl g13 rfl 149 (tabC sl nd r') (0, 0) _ HB13.out Try.underlying149 rfl (by kernel_rfl) ?_) | (refine RowSt.wpList_put 149 _ _ rfl rfl rfl gr (tabC sl nd r') rfl rfl 149 _ HST1.out.box (by kernel_rfl) rfl (by simp [Value.oneCell']) ?_; intro w8 hb8 hc8))
        have hS8 : ∀ i, i = gr → ∃ cs T f, W.heap[i]? = some (.cells cs T f) ∧ plainT T = true := fun i hi => by subst hi; exact ⟨_, _, _, HST1.out.box, rfl⟩
        have HT8 := Lib.hid (HST1.out.tb.plainB hc8 hS8)
        have HD8 : Hid ((Sh.sl objS).ok (mask w8 w.heap.size gt) (r'.A, r'.n, r'.c, r'.objs)) := Lib.hid (Sh.ok_le (mask_chg hc8 fun i hi => ⟨by have hi : i = gr := hi; rw [hi]; exact HST1.out.gr0, .inr fun o' ho => by
          obtain ⟨cs, T, f, h1, h2⟩ := hS8 i hi
          rw [h1] at ho
          cases ho
          exact h2⟩) _ _ HD1.out)
        have HB8 := Lib.hid hb8
        have HE8 := Lib.hid (HST1.out.ext.chg hc8 fun i hi => by have hi : i = gr := hi; rw [hi]; exact HST1.out.gr0)
        have HG := Lib.hid HST1.out.good
        have HGT0 := Lib.hid HST1.out.gt0
        have HGR0 := Lib.hid HST1.out.gr0
        clear hb8 hc8 hS8 HD1 HST1 HB13
        obtain ⟨c0, c1, c2, c3, c4, c5, c6, c7, c8, c9, c10⟩ := HCL.out.ext HE8.out
        go_wp2_with fail
        refine (to_calls o w8 (HOP.out.ext HE8.out) (by omega)).mono ?_
        rintro e w10 ⟨A', c', l', rfl, hm⟩
        have HOP10 := Lib.hid (withRows_ok (HOP.out.ext HE8.out) hm)
        have HSM10 := Lib.hid (hm.same (sl_len HOP.out.rows).1)
        have HX10 := Lib.hid hm.ext
        clear hm c0 c1 c2 c3 c4 c5 c6 c7 c8 c9 c10
        go_wp2_with fail
        refine (apply_calls gt sl nd t (withRows o A' c' l') w10 (HT8.out.ext HX10.out) (by rw [← HG.out.both.tn]; have := HG.out.inv.few; omega) hnd2 (fun ob hob => (HG.out.ft ob hob).small hsl2) (fun ob hob r hr => ((HG.out.ft ob hob).each r hr).1) HOP10.out (by have := HG.out.inv.x0; omega) HG.out.inv.x1).mono ?_
        rintro e w11 ⟨rfl, hc, t', ht', hr'⟩
        obtain ⟨hcode, hgood⟩ := good_apply HG.out HSM10.out HOP10.out hr' HRA.out ht' (V := mask w8 w.heap.size gt) HD8.out
        rw [hcode]
        generalize rApplyC sl nd r o = cd at *
        have hb11 := hc.at_ (HX10.out.at_ HB8.out) fun e => by
          have h1 := HT8.out.at_
          rw [← show gr = gt from e, HB8.out] at h1
          have h2 := Option.some.inj h1
          injection h2 with _ h3
          exact absurd h3 (by decide)
        have HST11 : Hid (PlSt w w11 gt gr sl nd t' r') := Lib.hid ⟨ht', Sh.ok_le (mask_chg hc fun i hi => ⟨by have hi : i = gt := hi; rw [hi]; exact HGT0.out, .inl hi⟩) _ _ (Sh.ok_le (mask_ext HX10.out) _ _ HD8.out), hb11, hgood, HGT0.out, HGR0.out, (HE8.out.trans HX10.out).chg hc fun i hi => by have hi : i = gt := hi; rw [hi]; exact HGT0.out⟩
        clear hcode hgood hr' ht' hc hb11 HD8 HT8 HG HB8 HX10 HOP10 HSM10
        go_wp2_with (refine wpList_load_rowG rfl 149 _ rfl gr rfl 149 (tabC sl nd r') (0, 0) _ HST11.out.box Try.underlying149 rfl (by kernel_rfl) ?_)
        refine (same_calls gt sl nd t' r' w11 HST11.out.tb (Sh.ok_le (fun a v h => (mask_cell' h).1) _ _ HST11.out.doc) HST11.out.good hsl2 hnd2).mono ?_
        rintro e w12 ⟨rfl, he12⟩
        have HST12 := Lib.hid (HST11.out.ext_ he12)
        clear he12 HST11
        go_wp2_with fail
        go_roundg (n - (k + 1))
        case measure => omega
        case rel => exact ⟨k + 1, t', r', by omega, rfl, by first | rfl | go_num, HST12⟩
      · obtain rfl : k = n := by omega
        go_wp2_with fail
        refine (awake_calls wr).mono ?_
        rintro e w7 ⟨rfl, he7⟩
        have HE7 := Lib.hid (HST.out.ext.trans he7)
        clear he7
        go_wp2_with fail
        go_ret
        exact ⟨rfl, HE7.out⟩
end Go.Proofs.Ytfhgjopoohfhjaa.Tbl
