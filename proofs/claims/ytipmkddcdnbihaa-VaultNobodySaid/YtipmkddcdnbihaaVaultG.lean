/- A vault's Get, walked. -/
import Derived.Test.YtipmkddcdnbihaaVaultF
namespace Go.Proofs.Ytipmkddcdnbihaa.Vault
open Go.RowKit Base Step MapIs
open VaultP (Sh shOf nameB cellOf readV Whole)
open DiskP (readC over)
theorem over_le {m : Int} {was : List Int} {c : Int} : ∀ {l : List (Int × List Int)}, (was.length : Int) ≤ m → (∀ q ∈ l, (q.2.length : Int) ≤ m) → ((over was l c).length : Int) ≤ m
  | [], h, _ => h
  | q :: l, h, hl => by
    show ((over (if q.1 = c then q.2 else was) l c).length : Int) ≤ m
    refine over_le ?_ fun p hp => hl p (List.mem_cons_of_mem _ hp)
    split
    · exact hl q List.mem_cons_self
    · exact h
theorem readC_le {w : World} {S : Nat → Prop} {g : Nat} {size : Int} {cells : List (List Int)} {loose : List (Int × List Int)} {syncs : Int} (h : Disk.Disk w S g size cells loose syncs) (c : Nat) : ((readC cells loose c).length : Int) ≤ 4096 := by
  obtain ⟨h1, h2, _, _, h5⟩ := h.len_le
  refine over_le ?_ fun q hq => by have := (h.inr q hq).2.2; omega
  by_cases hc : c < cells.length
  · have := h5 cells[c] (List.getElem_mem hc)
    rw [List.getD_eq_getElem?_getD, List.getElem?_eq_getElem hc]
    simp only [Option.getD_some]
    omega
  · rw [List.getD_eq_getElem?_getD, List.getElem?_eq_none (by omega)]
    simp
theorem four {c : Array Value} (h : c.size = 4) : ∃ u0 u1 u2 u3, c = #[u0, u1, u2, u3] := by
  obtain ⟨l⟩ := c
  match l, h with
  | [u0, u1, u2, u3], _ => exact ⟨u0, u1, u2, u3, rfl⟩
theorem set4 {w : World} {g : Nat} {T : TypeId} {fr : Nat × Nat} {u0 u1 u2 u3 : Value} (h : w.heap[g]? = some (.cells #[u0, u1, u2, u3] T fr)) (a b c d : Value) :
    ((((w.setCell ⟨g, 0, none⟩ a).setCell ⟨g, 1, none⟩ b).setCell ⟨g, 2, none⟩ c).setCell ⟨g, 3, none⟩ d).heap[g]? = some (.cells #[a, b, c, d] T fr) := set_blk (i := 3) (set_blk (i := 2) (set_blk (i := 1) (set_blk (i := 0) h a) b) c) d
theorem put4_chg (wr : World) (gr : Nat) (u0 u1 u2 u3 : Value) : Chg (fun i => i = gr) wr ((((wr.setCell ⟨gr, 0, none⟩ u0).setCell ⟨gr, 1, none⟩ u1).setCell ⟨gr, 2, none⟩ u2).setCell ⟨gr, 3, none⟩ u3) :=
  Chg.setCell (S := fun i => i = gr) (Chg.setCell (S := fun i => i = gr) (Chg.setCell (S := fun i => i = gr) (Chg.setCell (S := fun i => i = gr) (Chg.refl _ _) (p := ⟨gr, 0, none⟩) rfl _) (p := ⟨gr, 1, none⟩) rfl _) (p := ⟨gr, 2, none⟩) rfl _) (p := ⟨gr, 3, none⟩) rfl _
/-- What a cell's reading comes to: the shard, its bytes and the code. -/
noncomputable def shardOf (xs : List Int) : Sh := match readV xs with | some (s, _) => s | none => ⟨0, 0, 0, 0⟩
noncomputable def dataOf (xs : List Int) : List Int := match readV xs with | some (_, b) => b | none => []
/-- The tuple that read answers. -/
def readF (w0 : World) (s : Sh) (b : List Int) (r : Int) : Lex.Loose := ⟨fun v => ∃ A c, v = .tuple #[shV s, .slice A b.length c, .int .i64 r], fun v W => ∀ A c, v = .tuple #[shV s, .slice A b.length c, .int .i64 r] → New w0 W 5 1 A b.length c (nums .u8 b)⟩
theorem readF_st {w0 w1 : World} {s : Sh} {b : List Int} {r : Int} {p : Array Value → World → Prop} : (readF w0 s b r).St (Lex.Fill w1 111 p) := fun _ _ _ h he A c e => Lex.own_fill (h A c e) he (by decide)
theorem vread_one (A : Option Addr) (n c : Nat) (xs : List Int) (w : World) (hr : Rd w .u8 A n xs) (hc : n ≤ c) (h0 : A = none → c = 0) (hn : n ≤ 60000) :
    Calls Try.prog 125 #[.slice A n c] w fun e w' => ∃ A' c', e = .returned (.tuple #[shV (shardOf xs), .slice A' (dataOf xs).length c', .int .i64 (codeV xs)]) ∧ New w w' 5 1 A' (dataOf xs).length c' (nums .u8 (dataOf xs)) ∧ Ext w w' ∧ (codeV xs = 0 ∨ codeV xs = 21 ∨ codeV xs = 22) ∧ (codeV xs = 0 ↔ readV xs ≠ none) ∧ (codeV xs ≠ 0 → e = .returned (.tuple #[shV (shardOf xs), .slice none 0 0, .int .i64 (codeV xs)])) :=
  (vread_calls A n c xs w hr hc h0 hn).mono fun e w' ⟨he, h⟩ => by
    rcases h with ⟨h1, r, rfl, h2, rfl⟩ | ⟨s, b, A', c', h1, rfl, h2, h3⟩
    · have e1 : shardOf xs = ⟨0, 0, 0, 0⟩ := by unfold shardOf; rw [h1]
      have e2 : dataOf xs = [] := by unfold dataOf; rw [h1]
      rw [e1, e2]
      refine ⟨none, 0, rfl, Own.nil _ _ _ _, he, .inr h2, ?_, fun _ => rfl⟩
      constructor
      · intro h
        omega
      · intro h
        exact absurd h1 h
    · have e1 : shardOf xs = s := by unfold shardOf; rw [h1]
      have e2 : dataOf xs = b := by unfold dataOf; rw [h1]
      rw [e1, e2, h3]
      exact ⟨A', c', rfl, h2, he, .inl rfl, ⟨fun _ h => (by rw [h1] at h; cases h), fun _ => rfl⟩, fun h => absurd rfl h⟩
theorem codeV_cases (xs : List Int) : codeV xs = 0 ∨ codeV xs = 21 ∨ codeV xs = 22 := by
  unfold codeV
  split
  · exact .inl rfl
  · split
    · exact .inr (.inr rfl)
    · exact .inr (.inl rfl)
/-- What Get tells. -/
def Got (s : Sh) (xs : List Int) (w : World) (e : Ending) (w' : World) : Prop :=
  (codeV xs ≠ 0 ∧ e = .returned (.tuple #[.slice none 0 0, .int .i64 (codeV xs)])) ∨ (codeV xs = 0 ∧ shardOf xs ≠ s ∧ e = .returned (.tuple #[.slice none 0 0, .int .i64 21])) ∨
    (codeV xs = 0 ∧ shardOf xs = s ∧ ∃ A c, e = .returned (.tuple #[.slice A (dataOf xs).length c, .int .i64 0]) ∧ New w w' 5 1 A (dataOf xs).length c (nums .u8 (dataOf xs)))
set_option maxRecDepth 100000 in
set_option maxHeartbeats 1000000 in
theorem get_calls (S : Nat → Prop) (gv gm gd : Nat) (l : List (Sh × Nat)) (size : Int) (cells : List (List Int)) (loose : List (Int × List Int)) (syncs : Int) (s : Sh) (w : World) (h : VaultAt w gv gm gd l) (hd : Disk.Disk w S gd size cells loose syncs) (hs : s.Ok)
    (hl : ∀ p ∈ l, p.2 < cells.length) (hx : loose.length ≤ 1099511627776) :
    Calls Try.prog 55 #[.pointer (some ⟨gv, 0, none⟩), shV s] w fun e w' => Ext w w' ∧ ((s ∉ l.map (·.1) ∧ e = .returned (.tuple #[.slice none 0 0, .int .i64 6])) ∨ ∃ c : Nat, (s, c) ∈ l ∧ Got s (readC cells loose c) w e w') := by
  have e0 := Ext.new w (.cells #[.int .u32 s.o, .int .u16 s.st, .int .u16 s.sl, .int .u32 s.g] 111)
  have hb1 := at_new w (.cells #[.int .u32 s.o, .int .u16 s.st, .int .u16 s.sl, .int .u32 s.g] 111)
  go_enter Try.func55, Try.ntmps55
  go_wp2_with fail
  refine (has_calls gv gm gd l s _ (h.ext e0) hs).mono ?_
  rintro e w1 ⟨rfl, he1⟩
  have E1 := Lib.hid (e0.trans he1)
  have hB1 := he1.at_ hb1
  have HB1 := Lib.hid hB1
  clear hb1 he1 e0
  by_cases hm : s ∈ l.map (·.1)
  · obtain ⟨⟨s', c⟩, hp, hps⟩ := List.mem_map.1 hm
    have hps : s' = s := hps
    subst hps
    have hcl : c < cells.length := hl _ hp
    have hX := Lib.hid (readC_le hd c)
    have hL : ∀ W, Ext w1.drew W → (Instr.lookup 117 (.map (some gm)) (shV s') false).run Try.prog W = .ok (.int .i64 c) W := fun W hW => ((h.ext (E1.out.trans (drew_ext hW))).hit (c := c) hp).2
    have hv : ∀ W, Ext w1.drew W → W.cell? ⟨gv, 1, none⟩ = some (.map (some gm)) := fun W hW => blk_cell h.at_ (E1.out.trans (drew_ext hW)) rfl
    have hv0 : ∀ W, Ext w1.drew W → W.cell? ⟨gv, 0, none⟩ = some (.pointer (some ⟨gd, 0, none⟩)) := fun W hW => blk_cell h.at_ (E1.out.trans (drew_ext hW)) rfl
    have c0 : ∀ W, Ext w1.drew W → W.cell? ⟨w.heap.size, 0, none⟩ = some (.int .u32 s'.o) := fun W hW => blk_cell hB1 (drew_ext hW) rfl
    have c1 : ∀ W, Ext w1.drew W → W.cell? ⟨w.heap.size, 1, none⟩ = some (.int .u16 s'.st) := fun W hW => blk_cell hB1 (drew_ext hW) rfl
    have c2 : ∀ W, Ext w1.drew W → W.cell? ⟨w.heap.size, 2, none⟩ = some (.int .u16 s'.sl) := fun W hW => blk_cell hB1 (drew_ext hW) rfl
    have c3 : ∀ W, Ext w1.drew W → W.cell? ⟨w.heap.size, 3, none⟩ = some (.int .u32 s'.g) := fun W hW => blk_cell hB1 (drew_ext hW) rfl
    have HD := Lib.hid hd
    simp only [hm, decide_true]
    clear hm hd hB1 h
    obtain ⟨xs, hxs⟩ : ∃ xs, xs = readC cells loose c := ⟨_, rfl⟩
    rw [← hxs] at hX
    have HW : Hid (∀ x ∈ xs, (Lit.int .u8 x).wf = true) := Lib.hid (by rw [hxs]; obtain ⟨e, w', _, ⟨_, A, n, c', _, _, hh⟩, _⟩ := (Disk.read_calls S gd size cells loose syncs _ HD.out c hcl hx) []; exact hh)
    have HXS := Lib.hid hxs
    clear hxs
    obtain ⟨t, ht⟩ : ∃ t, t = shardOf xs := ⟨_, rfl⟩
    have HT := Lib.hid ht
    clear ht
    obtain ⟨r, hr⟩ : ∃ r, r = codeV xs := ⟨_, rfl⟩
    have HRR := Lib.hid hr
    clear hr
    obtain ⟨bs, hbs⟩ : ∃ bs, bs = dataOf xs := ⟨_, rfl⟩
    have HBS := Lib.hid hbs
    clear hbs
    have hsR : (readF w1 t bs r).St (Lex.Fill w1 111 (fun c _ => c = #[.int .u32 t.o, .int .u16 t.st, .int .u16 t.sl, .int .u32 t.g])) := readF_st
    go_wp2_with fail
    refine Lex.wp_region_fill [0, 1, 2, 3, 4, 5, 6, 7, 8, 9, 10, 11, 12, 13, 14, 15, 16, 17, 18, 19] [] 111 (fun c _ => c = #[.int .u32 t.o, .int .u16 t.st, .int .u16 t.sl, .int .u32 t.g]) (fun _ _ _ h _ => h) [(10, .row w1 5 .u8 xs.length xs), (11, readF w1 t bs r)] (by kernel_rfl) (by kernel_rfl) (by repeat (first | exact Lex.st_nil | refine Lex.st_cons (by first | exact Lex.const_stF | exact Lex.such_stF | exact Lex.row_stF (by decide) | assumption) ?_)) ?_; simp only [Lex.pick, List.getElem?_cons_succ, List.getElem?_cons_zero, List.map_cons, List.map_nil]
    repeat (first | (refine Lex.lexU_skip (by rfl) ?_; simp only [Act.put, List.setIfInBounds_toArray, List.set_cons_zero, List.set_cons_succ]) | (refine Lex.lexU_still (by rfl) (by rfl) (by first | exact Base.Ext.refl | exact Lex.Fill.refl) ?_; apply Exists.intro; refine ⟨fun W hW => ?_, ?_⟩; (have hE := Lex.ext_of_cls hW.1; have hE2 := Lex.ext_drew hE; clear hW; go_simp; try with_reducible rfl); simp only [Act.put, List.setIfInBounds_toArray, List.set_cons_zero, List.set_cons_succ]))
    refine Lex.lexU_loose (by rfl) (by rfl) (fun W hW => ?_) ?_
    · have hE := Lex.ext_drew (Lex.ext_of_cls hW.1)
      clear hW
      go_simp
      refine (Disk.read_calls S gd size cells loose syncs _ (HD.out.ext (E1.out.trans hE)) c hcl hx).mono ?_
      rintro e w8 ⟨he8, A8, n8, c8, rfl, ho8, hw8⟩
      rw [← HXS.out] at ho8 hw8
      have hl8 : xs.length = n8 := by have := ho8.row.1; simpa [nums] using this
      subst hl8
      exact ⟨_, rfl, ⟨A8, c8, rfl, ho8.cap.1⟩, Lex.Fill.of_ext he8, Lex.row_mk (ho8.mono fun i _ hi => Nat.le_trans hE.size hi)⟩
    rintro v ⟨A8, c8, rfl, hc8⟩
    simp only [Act.put, List.setIfInBounds_toArray, List.set_cons_zero, List.set_cons_succ]
    repeat (first | (refine Lex.lexU_skip (by rfl) ?_; simp only [Act.put, List.setIfInBounds_toArray, List.set_cons_zero, List.set_cons_succ]) | (refine Lex.lexU_still (by rfl) (by rfl) (by first | exact Base.Ext.refl | exact Lex.Fill.refl) ?_; apply Exists.intro; refine ⟨fun W hW => ?_, ?_⟩; (have hE := Lex.ext_of_cls hW.1; have hE2 := Lex.ext_drew hE; clear hW; go_simp; try with_reducible rfl); simp only [Act.put, List.setIfInBounds_toArray, List.set_cons_zero, List.set_cons_succ]))
    refine Lex.lexU_loose (by rfl) (by rfl) (fun W hW => ?_) ?_
    · have hE := Lex.ext_drew (Lex.ext_of_cls hW.1)
      have h10 := Lex.upd_here (hW.2 10 (by kernel_rfl)) _ _ rfl
      clear hW
      go_simp
      refine (vread_one A8 xs.length c8 xs _ (h10.rd HW.out) hc8 h10.cap.2 (by have := hX.out; omega)).mono ?_
      rintro e w8 ⟨A9, c9, rfl, ho9, he9, _, _, hz9⟩
      rw [← HT.out, ← HRR.out, ← HBS.out] at *
      exact ⟨_, rfl, ⟨A9, c9, rfl⟩, Lex.Fill.of_ext he9, fun A c e => by
        simp only [Value.tuple.injEq, Array.mk.injEq, List.cons.injEq, Value.slice.injEq, and_true, true_and] at e
        obtain ⟨rfl, rfl⟩ := e
        exact ho9.mono fun i _ hi => Nat.le_trans hE.size hi⟩
    rintro v ⟨A9, c9, rfl⟩
    simp only [Act.put, List.setIfInBounds_toArray, List.set_cons_zero, List.set_cons_succ]
    repeat (first | (refine Lex.lexU_skip (by rfl) ?_; simp only [Act.put, List.setIfInBounds_toArray, List.set_cons_zero, List.set_cons_succ]) | (refine Lex.lexU_still (by rfl) (by rfl) (by first | exact Base.Ext.refl | exact Lex.Fill.refl) ?_; apply Exists.intro; refine ⟨fun W hW => ?_, ?_⟩; (have hE := Lex.ext_of_cls hW.1; have hE2 := Lex.ext_drew hE; clear hW; go_simp; try with_reducible rfl); simp only [Act.put, List.setIfInBounds_toArray, List.set_cons_zero, List.set_cons_succ]))
    refine Lex.lexU_such (by rfl) (by rfl) (Lex.laidF w1 111 4) (Lex.laidF_st) (fun W hW => ?_) ?_
    · have hE := Lex.ext_drew (Lex.ext_of_cls hW.1)
      clear hW
      go_simp
      exact ⟨⟨_, rfl⟩, Lex.Fill.of_ext (Ext.new _ _), Lex.laidF_mk rfl hE.size⟩
    rintro v ⟨g6, rfl⟩
    simp only [Act.put, List.setIfInBounds_toArray, List.set_cons_zero, List.set_cons_succ]
    refine Lex.lexU_such (by rfl) (by rfl) (Lex.filledF 111 (fun c _ => c = #[.int .u32 t.o, .int .u16 t.st, .int .u16 t.sl, .int .u32 t.g]) g6) (Lex.filledF_st (fun _ _ _ h _ => h)) (fun W hW => ?_) ?_
    · have hE := Lex.ext_drew (Lex.ext_of_cls hW.1)
      obtain ⟨hg, c, hcs, hc⟩ := Lex.upd_here (hW.2 16 (by kernel_rfl)) _ rfl
      obtain ⟨u0, u1, u2, u3, rfl⟩ := four hcs
      clear hW
      have q0 := blk_cell (i := 0) hc (Ext.refl _) rfl
      have q1 := blk_cell (i := 1) hc (Ext.refl _) rfl
      have q2 := blk_cell (i := 2) hc (Ext.refl _) rfl
      have q3 := blk_cell (i := 3) hc (Ext.refl _) rfl
      have f0 := Pack.free_of hc 0
      have f1 := Pack.free_of hc 1
      have f2 := Pack.free_of hc 2
      have f3 := Pack.free_of hc 3
      have HS := Lib.hid (set4 hc (.int .u32 t.o) (.int .u16 t.st) (.int .u16 t.sl) (.int .u32 t.g))
      have HC := Lib.hid hc
      clear hc
      go_simp
      exact ⟨rfl, Lex.Fill.mk_ hg (put4_chg _ _ _ _ _ _) HC.out HS.out rfl rfl, _, HS.out, rfl⟩
    rintro v rfl
    simp only [Act.put, List.setIfInBounds_toArray, List.set_cons_zero, List.set_cons_succ]
    repeat (first | (refine Lex.lexU_skip (by rfl) ?_; simp only [Act.put, List.setIfInBounds_toArray, List.set_cons_zero, List.set_cons_succ]) | (refine Lex.lexU_still (by rfl) (by rfl) (by first | exact Base.Ext.refl | exact Lex.Fill.refl) ?_; apply Exists.intro; refine ⟨fun W hW => ?_, ?_⟩; (have hE := Lex.ext_of_cls hW.1; have hE2 := Lex.ext_drew hE; clear hW; go_simp; try with_reducible rfl); simp only [Act.put, List.setIfInBounds_toArray, List.set_cons_zero, List.set_cons_succ]))
    refine Lex.lexU_nil (fun W hW => ?_)
    have h16 := (hW.2 16).1.2 rfl _ rfl
    have h11 := Lib.hid ((hW.2 11).1.1.2 rfl _ _ rfl)
    obtain ⟨c', hc, rfl⟩ := (hW.2 17).2 rfl
    have hE := Lib.hid (Lex.ext_drew (Lex.ext_of_cls hW.1))
    clear hW
    refine Lex.onlyN_intro ?_
    have hb3 := hE.out.at_ HB1.out
    have HE := Lib.hid (E1.out.trans hE.out)
    have HN := Lib.hid (h11.out.mono fun i _ k => Nat.le_trans E1.out.size k)
    clear c0 c1 c2 c3 hL hv hv0
    have q0 := blk_cell (i := 0) hc (Ext.refl _) rfl
    have q1 := blk_cell (i := 1) hc (Ext.refl _) rfl
    have q2 := blk_cell (i := 2) hc (Ext.refl _) rfl
    have q3 := blk_cell (i := 3) hc (Ext.refl _) rfl
    have p0 := blk_cell (i := 0) hb3 (Ext.refl _) rfl
    have p1 := blk_cell (i := 1) hb3 (Ext.refl _) rfl
    have p2 := blk_cell (i := 2) hb3 (Ext.refl _) rfl
    have p3 := blk_cell (i := 3) hb3 (Ext.refl _) rfl
    clear hc hb3
    have hcases := codeV_cases xs
    rw [← HRR.out] at hcases
    by_cases h0 : r = 0
    · subst h0
      by_cases hts : t = s'
      · subst hts
        go_wp2_with fail
        go_ret2
        refine ⟨HE.out, .inr ⟨_, hp, ?_⟩⟩
        rw [← HXS.out]
        refine .inr (.inr ⟨HRR.out.symm, HT.out.symm, A9, c9, ?_, ?_⟩)
        · rw [← HBS.out]
          rfl
        · rw [← HBS.out]
          exact HN.out
      · have hne : ¬ (t.o = s'.o ∧ t.st = s'.st ∧ t.sl = s'.sl ∧ t.g = s'.g) := fun ⟨k1, k2, k3, k4⟩ => hts (by obtain ⟨_, _, _, _⟩ := t; obtain ⟨_, _, _, _⟩ := s'; cases k1; cases k2; cases k3; cases k4; rfl)
        go_wp2_with fail
        all_goals
          go_ret2
          refine ⟨HE.out, .inr ⟨_, hp, ?_⟩⟩
          rw [← HXS.out]
          exact .inr (.inl ⟨HRR.out.symm, fun k => hts (HT.out.trans k), rfl⟩)
    · have HR0 : (r != 0) = true := by simp [bne]; exact h0
      have HR1 := Lib.hid h0
      clear h0
      go_wp2_with fail
      go_ret2
      refine ⟨HE.out, .inr ⟨_, hp, ?_⟩⟩
      rw [← HXS.out]
      exact .inl ⟨HRR.out ▸ HR1.out, by rw [← HRR.out]; rfl⟩
  · simp only [hm, decide_false]
    go_wp2_with fail
    go_ret2
    exact ⟨E1.out, .inl ⟨hm, rfl⟩⟩
end Go.Proofs.Ytipmkddcdnbihaa.Vault
