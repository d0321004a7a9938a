/- A queue's Put: walked. -/
import Derived.Test.YtipmkddcdnbihaaUrgD
import Derived.Laws.Cover3
namespace Go.Proofs.Ytipmkddcdnbihaa.Urg
open Go.RowKit Base Step MapIs Vec
open UrgP
/-- All jobs but that of a key. -/
def without (l : List Job) (k : Int × Int) : List Job := l.filter fun x => decide (UrgP.key x ≠ k)
theorem without_none {l : List Job} {k : Int × Int} (h : posOf l k = none) : without l k = l := by
  unfold without
  rw [List.filter_eq_self]
  intro a ha
  simpa using posOf_none h a ha
theorem nodup_key {l : List Job} (hn : (l.map keyV).Nodup) : (l.map UrgP.key).Nodup := by
  have e : l.map keyV = (l.map UrgP.key).map kV := by rw [List.map_map]; rfl
  rw [e] at hn
  unfold List.Nodup at hn ⊢
  rw [List.pairwise_map] at hn
  exact hn.imp fun h k => h (by rw [k])
theorem without_set : ∀ {l : List Job} {i : Nat} (j : Job), (l.map UrgP.key).Nodup → i < l.length → (l.set i j).Perm (j :: without l (UrgP.key (at_ l i)))
  | [], i, j, _, hi => by cases hi
  | a :: l, 0, j, hn, _ => by
    rw [List.map_cons, List.nodup_cons] at hn
    have : without (a :: l) (UrgP.key (at_ (a :: l) 0)) = l := by
      show List.filter _ (a :: l) = l
      rw [List.filter_cons_of_neg (by simp [at_]), List.filter_eq_self]
      intro x hx
      have : UrgP.key x ≠ UrgP.key a := fun e => hn.1 (e ▸ List.mem_map.2 ⟨x, hx, rfl⟩)
      exact decide_eq_true this
    rw [List.set_cons_zero, this]
  | a :: l, i + 1, j, hn, hi => by
    rw [List.map_cons, List.nodup_cons] at hn
    have hi' : i < l.length := by simpa using hi
    have ha : at_ (a :: l) (i + 1) = at_ l i := by simp [at_]
    have hne : UrgP.key a ≠ UrgP.key (at_ l i) := fun e => hn.1 (e ▸ List.mem_map.2 ⟨_, at_mem hi', rfl⟩)
    have : without (a :: l) (UrgP.key (at_ l i)) = a :: without l (UrgP.key (at_ l i)) := by
      exact List.filter_cons_of_pos (p := fun x => decide (UrgP.key x ≠ UrgP.key (at_ l i))) (decide_eq_true hne)
    rw [List.set_cons_succ, ha, this]
    exact ((without_set j hn.2 hi').cons a).trans (List.Perm.swap _ _ _)
/-- A queue in which a job is put: its place is there, what stands there is to be stored. -/
structure PutAt (w : World) (S : Nat → Prop) (gq gm b : Nat) (l : List Job) (j : Job) (l1 : List Job) (i : Nat) (wx : World) : Prop where
  q : QueAt wx (fun q => Plus S w wx q ∧ q ≠ b) gq gm l1
  lt : i < l1.length
  key : UrgP.key (at_ l1 i) = UrgP.key j
  g : G (l1.set i j) i
  perm : (l1.set i j).Perm (j :: without l (UrgP.key j))
  chg : Chg S w wx
  box : wx.heap[b]? = some (.cells #[.int .u32 j.o, .int .u16 j.s, .int .i64 j.g] 32 (0, 0))
  few : l1.length ≤ l.length + 1
theorem ents_set {l : List Job} {i : Nat} {j : Job} (hi : i < l.length) (hk : UrgP.key (at_ l i) = UrgP.key j) : ents (l.set i j) = ents l := by
  apply List.ext_getElem?
  intro k
  unfold ents
  rw [List.getElem?_map, List.getElem?_map, List.getElem?_zipIdx, List.getElem?_zipIdx, List.getElem?_set]
  by_cases hik : i = k
  · subst hik
    rw [if_pos rfl, if_pos hi, at_get hi]
    simp only [Option.map_some]
    rw [keyV_iff.2 hk]
  · rw [if_neg hik]
theorem ents_snoc (l : List Job) (j : Job) : ents (l ++ [j]) = ents l ++ [(keyV j, (l.length : Int))] := by
  unfold ents
  rw [List.zipIdx_append, List.map_append]
  simp
set_option maxRecDepth 100000 in
set_option maxHeartbeats 4000000 in
theorem put_calls (S : Nat → Prop) (gq gm : Nat) (l : List Job) (j : Job) (w : World) (h : QueAt w S gq gm l) (hH : UrgP.Heap l) (hj : Ok j) (hlen : l.length ≤ 1000000) :
    Calls Try.prog 15 #[.pointer (some ⟨gq, 0, none⟩), jobA j] w fun e w' => e = .returned (.tuple #[]) ∧ ∃ l', QueAt w' (Plus S w w') gq gm l' ∧ UrgP.Heap l' ∧ l'.Perm (j :: without l (UrgP.key j)) ∧ Chg S w w' := by
  have e0 := Ext.new w (.cells #[.int .u32 j.o, .int .u16 j.s, .int .i64 j.g] 32)
  have hb0 := at_new w (.cells #[.int .u32 j.o, .int .u16 j.s, .int .i64 j.g] 32)
  have H0 := Lib.hid (h.ext e0)
  have HL := Lib.hid h.lt
  have E0 := Lib.hid e0
  have HH := Lib.hid hH
  have HJ := Lib.hid hj
  clear h e0 hH hj
  go_enter Try.func15, Try.ntmps15
  go_upto_region 1 with fail
  generalize w.alloc (.cells #[.int .u32 j.o, .int .u16 j.s, .int .i64 j.g] 32) = wa at *
  obtain ⟨A, c, hat, hown⟩ := H0.out.row
  have c1 : wa.cell? ⟨gq, 1, none⟩ = some (.map (some gm)) := blk_cell (i := 1) hat (Ext.refl _) rfl
  have B0 := Lib.hid hb0
  have hmn := run_eql_map_nil (P := Try.prog) (w := wa) 51 _ _ (some gm) Try.underlying51
  go_wp2_with fail
  clear c1 hmn
  have k0 : ∀ W, Ext wa.drew W → W.cell? ⟨w.heap.size, 0, none⟩ = some (.int .u32 j.o) := fun W hW => blk_cell (i := 0) hb0 (drew_ext hW) rfl
  have k1 : ∀ W, Ext wa.drew W → W.cell? ⟨w.heap.size, 1, none⟩ = some (.int .u16 j.s) := fun W hW => blk_cell (i := 1) hb0 (drew_ext hW) rfl
  have q1 : ∀ W, Ext wa.drew W → W.cell? ⟨gq, 1, none⟩ = some (.map (some gm)) := fun W hW => blk_cell (i := 1) hat (drew_ext hW) rfl
  clear hb0 hat hown
  obtain ⟨r, hr, hll⟩ : ∃ r : Int × Bool, ((∃ i : Nat, posOf l (UrgP.key j) = some i ∧ r = ((i : Int), true)) ∨ (posOf l (UrgP.key j) = none ∧ r = (0, false))) ∧ ∀ W, Ext wa.drew W → (Instr.lookup 51 (.map (some gm)) (.agg #[.int .u32 j.o, .int .u16 j.s]) true).run Try.prog W = .ok (.tuple #[.int .i64 r.1, .bool r.2]) W := by
    cases hp : posOf l (UrgP.key j) with
    | some i =>
      refine ⟨((i : Int), true), .inl ⟨i, rfl, rfl⟩, fun W hW => ?_⟩
      rcases (H0.out.ext (drew_ext hW)).look (k := UrgP.key j) HJ.out.o0 HJ.out.o1 HJ.out.s0 HJ.out.s1 with ⟨i', hp', hl'⟩ | ⟨hp', _⟩
      · rw [hp] at hp'
        cases hp'
        exact hl' true
      · rw [hp] at hp'
        cases hp'
    | none =>
      refine ⟨(0, false), .inr ⟨rfl, rfl⟩, fun W hW => ?_⟩
      rcases (H0.out.ext (drew_ext hW)).look (k := UrgP.key j) HJ.out.o0 HJ.out.o1 HJ.out.s0 HJ.out.s1 with ⟨i', hp', hl'⟩ | ⟨_, hl'⟩
      · rw [hp] at hp'
        cases hp'
      · exact hl'
  obtain ⟨r1, r2⟩ := r
  have HR := Lib.hid hr
  clear hr
  refine Lex.wp_region_u [0, 1, 2, 3, 4, 5, 6, 7, 8, 9, 10, 11] [] [] (by kernel_rfl) (by kernel_rfl) (by repeat (first | exact Lex.st_nil | refine Lex.st_cons (by first | exact Lex.nums_st | exact Lex.const_st | exact Lex.such_st | exact Lex.row_st | exact Lex.rowE_st | exact Lex.litR_st | assumption) ?_)) ?_; simp only [Lex.pick, List.getElem?_cons_succ, List.getElem?_cons_zero, List.map_nil]
  repeat (first | (refine Lex.lexU_skip (by rfl) ?_; simp only [Act.put, List.setIfInBounds_toArray, List.set_cons_zero, List.set_cons_succ]) | (refine Lex.lexU_still (by rfl) (by rfl) (by first | exact Base.Ext.refl | exact Lex.Fill.refl) ?_; apply Exists.intro; refine ⟨fun W hW => ?_, ?_⟩; (have hE := Lex.ext_of_cls hW.1; have hE2 := Lex.ext_drew hE; clear hW; go_simp; try with_reducible rfl); simp only [Act.put, List.setIfInBounds_toArray, List.set_cons_zero, List.set_cons_succ]))
  refine Lex.lexU_nil (fun W hW => ?_)
  have hE := Lib.hid (Lex.ext_drew hW.1)
  clear hW k0 k1 q1 hll
  refine Lex.onlyN_intro ?_
  have H1 := Lib.hid (H0.out.ext hE.out)
  have E1 := Lib.hid (E0.out.trans hE.out)
  have B1 := Lib.hid (hE.out.at_ B0.out)
  clear hE H0 E0 B0
  generalize W = wb at *
  go_upto_if 26 with fail
  go_cut [4] (fun v wx => ∃ (i : Nat) (l1 : List Job), v = .int .i64 i ∧ Hid (PutAt w S gq gm w.heap.size l j l1 i wx))
  case first =>
    rcases HR.out with ⟨i, hp, hr⟩ | ⟨hp, hr⟩
    · cases hr
      obtain ⟨hi, hk⟩ := posOf_some hp
      have HP := Lib.hid (And.intro hi hk)
      clear HR hp hi hk
      go_wp2_with fail
      go_meet
      refine ⟨i, l, rfl, Lib.hid ⟨H1.out.mono (fun q hq => ⟨.inl hq, Nat.ne_of_lt (HL.out q hq)⟩) (fun q hq => Plus.lt HL.out E1.out.size q hq.1), HP.out.1, HP.out.2, HH.out.set i j, ?_, Below.chg E1.out, B1.out, Nat.le_succ _⟩⟩
      have := without_set j (nodup_key H1.out.nodup) HP.out.1
      rwa [HP.out.2] at this
    · cases hr
      have HP := Lib.hid hp
      clear HR hp
      obtain ⟨A, c, hat, hown⟩ := H1.out.row
      have c0 : wb.cell? ⟨gq, 0, none⟩ = some (.slice A l.length c) := blk_cell (i := 0) hat (Ext.refl _) rfl
      have hb1 := B1.out
      go_upto_region 5 with fail
      clear c0
      have q0 : ∀ W, Ext wb.drew W → W.cell? ⟨gq, 0, none⟩ = some (.slice A l.length c) := fun W hW => blk_cell (i := 0) hat (drew_ext hW) rfl
      have k0 : ∀ W, Ext wb.drew W → W.cell? ⟨w.heap.size, 0, none⟩ = some (.int .u32 j.o) := fun W hW => blk_cell (i := 0) hb1 (drew_ext hW) rfl
      have k1 : ∀ W, Ext wb.drew W → W.cell? ⟨w.heap.size, 1, none⟩ = some (.int .u16 j.s) := fun W hW => blk_cell (i := 1) hb1 (drew_ext hW) rfl
      have k2 : ∀ W, Ext wb.drew W → W.cell? ⟨w.heap.size, 2, none⟩ = some (.int .i64 j.g) := fun W hW => blk_cell (i := 2) hb1 (drew_ext hW) rfl
      have HAT := Lib.hid hat
      have HOWN := Lib.hid hown
      clear hb1 hat hown
      refine Lex.wp_region_ord [0] [1, 2, 3, 4, 5, 6] [7, 8, 9, 10] [(6, Lex.blkL 1 32 #[.int .u32 j.o, .int .u16 j.s, .int .i64 j.g])] (by kernel_rfl) (by kernel_rfl) (by repeat (first | exact Lex.st_nil | refine Lex.st_cons (by first | exact Lex.nums_st | exact Lex.const_st | exact Lex.such_st | exact Lex.row_st | exact Lex.rowE_st | exact Lex.litR_st | exact Lex.blkL_st) ?_)) ?_; simp only [Lex.pick, List.getElem?_cons_succ, List.getElem?_cons_zero, List.map_cons, List.map_nil]; repeat (refine Lex.preL_cons (by rfl) ?_; apply Exists.intro; refine ⟨fun W => ?_, ?_⟩; (go_simp; try with_reducible rfl); simp only [Act.put, List.setIfInBounds_toArray, List.set_cons_zero, List.set_cons_succ]); refine Lex.preL_nil ?_
      repeat (first | (refine Lex.lexH_skip (by rfl) ?_; simp only [Act.put, List.setIfInBounds_toArray, List.set_cons_zero, List.set_cons_succ]) | (refine Lex.lexH_still (by rfl) (by rfl) ?_; apply Exists.intro; refine ⟨fun W hW => ?_, ?_⟩; (have hE := hW.1; have hE2 := Base.Ext.trans (Base.Ext.drew (Base.Ext.refl _)) hW.1; clear hW; go_simp; try with_reducible rfl); simp only [Act.put, List.setIfInBounds_toArray, List.set_cons_zero, List.set_cons_succ]))
      refine Lex.lexH_loose (by rfl) (by rfl) (fun W hW => ?_) ?_
      · go_simp
        exact ⟨⟨_, rfl⟩, Ext.new _ _, Lex.blkL_mk⟩
      rintro v ⟨g6, rfl⟩
      simp only [Act.put, List.setIfInBounds_toArray, List.set_cons_zero, List.set_cons_succ]
      repeat (first | (refine Lex.lexH_skip (by rfl) ?_; simp only [Act.put, List.setIfInBounds_toArray, List.set_cons_zero, List.set_cons_succ]) | (refine Lex.lexH_still (by rfl) (by rfl) ?_; apply Exists.intro; refine ⟨fun W hW => ?_, ?_⟩; (have hE := hW.1; have hE2 := Base.Ext.trans (Base.Ext.drew (Base.Ext.refl _)) hW.1; clear hW; go_simp; try with_reducible rfl); simp only [Act.put, List.setIfInBounds_toArray, List.set_cons_zero, List.set_cons_succ]))
      refine Lex.lexH_nil (fun W hW => ?_)
      have hE := drew_ext hW.1
      have hb6 := Lex.upd_here (hW.2 6) _ rfl
      clear hW q0 k0 k1 k2
      have hoW := HOWN.out.extNew hE
      have hsz1 := hE.size
      have hlenN : l.length ≤ 1000000 := hlen
      go_wp2_with (at_builtin; refine wpList_appE _ rfl _ _ _ rfl (fun i => S i ∨ W.heap.size ≤ i) 32 _ 3 16 Try.underlying36 info_job rfl (by decide) (by decide) (.slice A l.length c) _ (l.flatMap jobV) rfl (hoW.mono fun i _ hi => .inl hi) g6 1 [.int .u32 j.o, .int .u16 j.s, .int .i64 j.g] rfl rfl (fun q u hu => by rcases q with _ | _ | _ | q <;> simp at hu <;> subst hu <;> first | exact blk_cell (i := 0) hb6 (Ext.refl _) rfl | exact blk_cell (i := 1) hb6 (Ext.refl _) rfl | exact blk_cell (i := 2) hb6 (Ext.refl _) rfl) (by simp [Value.oneCell']) ?c2 (fun i hi => .inr hi) ?_)
      case c2 => omega
      intro A2 c2 w2 ho2 hc2
      have hsz2 := hc2.size
      have hbW : w.heap.size < W.heap.size := Pack.lt_of_at (hE.at_ B1.out)
      have hgq : (Value.slice A l.length c).ownBlock ≠ some gq := HOWN.out.ne HAT.out (by decide)
      have hgm := Mp.ne_at H1.out.mp HAT.out
      have hgo : (Value.slice A l.length c).ownBlock ≠ some gm := Mp.ne_own H1.out.mp HOWN.out
      have hgb : (Value.slice A l.length c).ownBlock ≠ some w.heap.size := fun e => by have := HL.out _ (HOWN.out.foot _ e); omega
      have hat2 := hc2.at_ (hE.at_ HAT.out) hgq
      have hb2 := hc2.at_ (hE.at_ B1.out) hgb
      have hmp2 := (H1.out.mp.ext hE).chg hc2 hgo
      have hch2 : Chg S w w2 := ext_chg (E1.out.trans hE) (hc2.mono fun q _ hq => HOWN.out.foot q hq)
      have hne : gq ≠ w.heap.size := fun e => by have := HL.out _ H1.out.sq; omega
      have hcell := blk_cell (i := 0) hat2 (Ext.refl _) rfl
      have hfree := Pack.free_of hat2 0
      have hat3 : (w2.setCell ⟨gq, 0, none⟩ (.slice A2 (l.length + 1) c2)).heap[gq]? = some (.cells #[.slice A2 (l.length + 1) c2, .map (some gm)] 53 (0, 0)) := set_blk (i := 0) hat2 _
      have ho3 := own_put (g := gq) (i := 0) (u := .slice A2 (l.length + 1) c2) ho2 hat2 (by decide)
      have hc3 : Chg (fun q => q = gq) w2 (w2.setCell ⟨gq, 0, none⟩ (.slice A2 (l.length + 1) c2)) := Chg.setCell (S := fun q => q = gq) (Chg.refl _ _) (p := ⟨gq, 0, none⟩) rfl _
      have hb3 := hc3.at_ hb2 (fun k => hne k.symm)
      have hmp3 := hmp2.chg hc3 (fun k => hgm k.symm)
      have hch3 := hch2.trans (hc3.mono fun q _ hq => by have hq : q = gq := hq; subst hq; exact H1.out.sq)
      have hflat : l.flatMap jobV ++ [.int .u32 j.o, .int .u16 j.s, .int .i64 j.g] = (l ++ [j]).flatMap jobV := by rw [List.flatMap_append]; rfl
      rw [hflat] at ho3
      have HAT3 := Lib.hid hat3
      have HO3 := Lib.hid ho3
      have HB3 := Lib.hid hb3
      have HM3 := Lib.hid hmp3
      have HC3 := Lib.hid hch3
      have hs3 : (w2.setCell ⟨gq, 0, none⟩ (.slice A2 (l.length + 1) c2)).heap.size = w2.heap.size := by simp
      clear hat2 hb2 hmp2 hch2 hat3 ho3 hb3 hmp3 hch3 hc3 ho2 hc2 hflat hgq hgo hgb hb6 hoW
      go_upto_region 6 with fail
      simp only [Lex.onlyN]
      go_upto_region 6 with fail
      clear hcell hfree
      generalize w2.setCell ⟨gq, 0, none⟩ (.slice A2 (l.length + 1) c2) = w3 at *
      have q1 : ∀ W, Ext w3.drew W → W.cell? ⟨gq, 1, none⟩ = some (.map (some gm)) := fun W hW => blk_cell (i := 1) HAT3.out (drew_ext hW) rfl
      have k0 : ∀ W, Ext w3.drew W → W.cell? ⟨w.heap.size, 0, none⟩ = some (.int .u32 j.o) := fun W hW => blk_cell (i := 0) HB3.out (drew_ext hW) rfl
      have k1 : ∀ W, Ext w3.drew W → W.cell? ⟨w.heap.size, 1, none⟩ = some (.int .u16 j.s) := fun W hW => blk_cell (i := 1) HB3.out (drew_ext hW) rfl
      refine Lex.wp_region_u [0, 1, 2, 3, 4, 5, 6] [7] [] (by kernel_rfl) (by kernel_rfl) (by repeat (first | exact Lex.st_nil | refine Lex.st_cons (by first | exact Lex.nums_st | exact Lex.const_st | exact Lex.such_st | exact Lex.row_st | exact Lex.rowE_st | exact Lex.litR_st | assumption) ?_)) ?_; simp only [Lex.pick, List.getElem?_cons_succ, List.getElem?_cons_zero, List.map_cons, List.map_nil]
      repeat (first | (refine Lex.lexU_skip (by rfl) ?_; simp only [Act.put, List.setIfInBounds_toArray, List.set_cons_zero, List.set_cons_succ]) | (refine Lex.lexU_still (by rfl) (by rfl) (by first | exact Base.Ext.refl | exact Lex.Fill.refl) ?_; apply Exists.intro; refine ⟨fun W hW => ?_, ?_⟩; (have hE := Lex.ext_of_cls hW.1; have hE2 := Lex.ext_drew hE; clear hW; go_simp; try with_reducible rfl); simp only [Act.put, List.setIfInBounds_toArray, List.set_cons_zero, List.set_cons_succ]))
      refine Lex.lexU_nil (fun W hW => ?_)
      have hE4 := Lib.hid (Lex.ext_drew hW.1)
      clear hW q1 k0 k1
      obtain ⟨kl, hkl⟩ := key_of HJ.out.o0 HJ.out.o1 HJ.out.s0 HJ.out.s1
      have hmem : keyV j ∉ (ents l).map (·.1) := fun k => by
        rw [ents_keys] at k
        obtain ⟨x, hx, he⟩ := List.mem_map.1 k
        exact posOf_none HP.out x hx (keyV_iff.1 he)
      refine wpList_put_mp (key := keyV j) (c := (l.length : Int)) (HM3.out.ext hE4.out) key_keyed Try.underlying51 Try.underlying3 (by rw [ents_len]; simp only [maxLen]; omega) rfl _ _ _ rfl rfl rfl rfl hkl hmem (by simp [Lit.wf, IntKind.min, IntKind.max, IntKind.bits, IntKind.signed]; omega) ?_
      intro w5 hmp5 hc5
      have HM5 := Lib.hid hmp5
      have HC5 := Lib.hid hc5
      clear hmp5 hc5
      refine Lex.onlyN_intro ?_
      go_wp2_with fail
      go_meet
      have hs4 := hE4.out.size
      have hs5 := HC5.out.size
      have hlen1 : (l ++ [j]).length = l.length + 1 := by simp
      have hgg2 : (Value.slice A2 (l.length + 1) c2).ownBlock ≠ some gm := Mp.ne_own HM3.out HO3.out
      refine ⟨l.length, l ++ [j], rfl, Lib.hid ⟨⟨⟨A2, c2, ?_, ?_⟩, by rw [ents_snoc]; exact HM5.out, fun x hx => ?_, ⟨.inl H1.out.sq, Nat.ne_of_lt (HL.out _ H1.out.sq)⟩, ⟨.inl H1.out.sm, Nat.ne_of_lt (HL.out _ H1.out.sm)⟩, fun q hq => Plus.lt HL.out ?_ q hq.1⟩, by rw [hlen1]; omega, ?_, ?_, ?_, ?_, ?_, by rw [hlen1]; omega⟩⟩
      · rw [hlen1]
        exact HC5.out.at_ (hE4.out.at_ HAT3.out) hgm
      · rw [hlen1]
        have h7 := (HO3.out.extNew hE4.out).keep (w' := w5) fun q hq => HC5.out.block q (by have := (HO3.out.row.lt q hq).2; exact Nat.lt_of_lt_of_le this hs4) (fun k => hgg2 (by rw [← k]; exact hq))
        have hlt5 := (h7.row.lt)
        refine ⟨h7.row, fun q hq => ?_⟩
        rcases HO3.out.foot q hq with h8 | h8
        · exact ⟨.inl h8, Nat.ne_of_lt (HL.out q h8)⟩
        · have h9 := (hlt5 q hq).2
          have hs1 := E1.out.size
          exact ⟨.inr ⟨by omega, h9⟩, by omega⟩
      · rcases List.mem_append.1 hx with hx | hx
        · exact H1.out.ok x hx
        · rw [List.mem_singleton.1 hx]; exact HJ.out
      · exact Nat.le_trans HC3.out.size (Nat.le_trans hs4 hs5)
      · have : at_ (l ++ [j]) l.length = j := at_eq (by simp)
        rw [this]
      · have : (l ++ [j]).set l.length j = l ++ [j] := by rw [List.set_append_right _ _ (Nat.le_refl _)]; simp
        rw [this]
        exact HH.out.app j
      · have : (l ++ [j]).set l.length j = l ++ [j] := by rw [List.set_append_right _ _ (Nat.le_refl _)]; simp
        rw [this, without_none HP.out]
        exact List.perm_append_singleton j l
      · exact (chg_ext HC3.out hE4.out).trans (HC5.out.mono fun q _ hq => by have hq : q = gm := hq; subst hq; exact H1.out.sm)
      · exact HC5.out.at_ (hE4.out.at_ HB3.out) (fun k => by have k : w.heap.size = gm := k; have := HL.out _ H1.out.sm; omega)
  case rest =>
    obtain ⟨i, l1, rfl, HP⟩ := hcut
    clear HR H1 E1 B1 HH
    rename_i wc
    have hi := HP.out.lt
    obtain ⟨A, c, hat, hown⟩ := HP.out.q.row
    obtain ⟨g, rfl, p0, p1, p2⟩ := row_cell hown (at_get hi)
    have hiI : (i : Int) < l1.length := by omega
    have q0 : ∀ W, Ext wc.drew W → W.cell? ⟨gq, 0, none⟩ = some (.slice (some ⟨g, 0, none⟩) l1.length c) := fun W hW => blk_cell (i := 0) hat (drew_ext hW) rfl
    have k0 : ∀ W, Ext wc.drew W → W.cell? ⟨w.heap.size, 0, none⟩ = some (.int .u32 j.o) := fun W hW => blk_cell (i := 0) HP.out.box (drew_ext hW) rfl
    have k1 : ∀ W, Ext wc.drew W → W.cell? ⟨w.heap.size, 1, none⟩ = some (.int .u16 j.s) := fun W hW => blk_cell (i := 1) HP.out.box (drew_ext hW) rfl
    have k2 : ∀ W, Ext wc.drew W → W.cell? ⟨w.heap.size, 2, none⟩ = some (.int .i64 j.g) := fun W hW => blk_cell (i := 2) HP.out.box (drew_ext hW) rfl
    have HAT := Lib.hid hat
    have HOWN := Lib.hid hown
    clear p0 p1 p2 hat hown
    go_wp2_with fail
    refine Lex.wp_region_u [0, 1, 2, 3, 4, 5, 6] [7] [] (by kernel_rfl) (by kernel_rfl) (by repeat (first | exact Lex.st_nil | refine Lex.st_cons (by first | exact Lex.nums_st | exact Lex.const_st | exact Lex.such_st | exact Lex.row_st | exact Lex.rowE_st | exact Lex.litR_st | assumption) ?_)) ?_; simp only [Lex.pick, List.getElem?_cons_succ, List.getElem?_cons_zero, List.map_cons, List.map_nil]
    repeat (first | (refine Lex.lexU_skip (by rfl) ?_; simp only [Act.put, List.setIfInBounds_toArray, List.set_cons_zero, List.set_cons_succ]) | (refine Lex.lexU_still (by rfl) (by rfl) (by first | exact Base.Ext.refl | exact Lex.Fill.refl) ?_; apply Exists.intro; refine ⟨fun W hW => ?_, ?_⟩; (have hE := Lex.ext_of_cls hW.1; have hE2 := Lex.ext_drew hE; clear hW; go_simp; try with_reducible rfl); simp only [Act.put, List.setIfInBounds_toArray, List.set_cons_zero, List.set_cons_succ]))
    refine Lex.lexU_nil (fun W hW => ?_)
    have hE := Lib.hid (Lex.ext_drew hW.1)
    clear hW q0 k0 k1 k2
    have hoW := HOWN.out.extNew hE.out
    obtain ⟨_, e, p0, p1, p2⟩ := row_cell hoW (at_get hi)
    cases e
    have hgb : g ≠ w.heap.size := (HOWN.out.foot g rfl).2
    have hgg : g ≠ gm := fun e => Mp.ne_own HP.out.q.mp HOWN.out (by rw [e]; rfl)
    have hgq : g ≠ gq := fun e => HOWN.out.ne HAT.out (by decide) (by rw [e]; rfl)
    have f0 := own_free hoW (i * 3)
    have f1 := own_free hoW (i * 3 + 1)
    have f2 := own_free hoW (i * 3 + 2)
    rw [add_lit, Nat.zero_add] at f0 f1 f2
    have hc3 := chg3 W g (i * 3) (i * 3 + 1) (i * 3 + 2) (.int .u32 j.o) (.int .u16 j.s) (.int .i64 j.g)
    have hq3 : QueAt (((W.setCell ⟨g, i * 3, none⟩ (.int .u32 j.o)).setCell ⟨g, i * 3 + 1, none⟩ (.int .u16 j.s)).setCell ⟨g, i * 3 + 2, none⟩ (.int .i64 j.g)) (fun q => Plus S w wc q ∧ q ≠ w.heap.size) gq gm (l1.set i j) := by
      have ho3 := own_job hoW hi j
      refine ⟨⟨some ⟨g, 0, none⟩, c, ?_, ?_⟩, ?_, fun x hx => ?_, HP.out.q.sq, HP.out.q.sm, fun q hq => ?_⟩
      · rw [List.length_set]
        exact hc3.at_ (hE.out.at_ HAT.out) (Ne.symm hgq)
      · rw [List.length_set]
        exact ho3
      · rw [ents_set hi HP.out.key]
        exact (HP.out.q.mp.ext hE.out).chg hc3 (Ne.symm hgg)
      · rcases List.mem_or_eq_of_mem_set hx with hx | hx
        · exact HP.out.q.ok x hx
        · rw [hx]; exact HJ.out
      · exact Nat.lt_of_lt_of_le (HP.out.q.lt q hq) (Nat.le_trans hE.out.size hc3.size)
    have hb3 := hc3.at_ (hE.out.at_ HP.out.box) (Ne.symm hgb)
    have hch3 : Chg S w _ := (chg_ext HP.out.chg hE.out).step hc3 (fun q hq k => by
      have k : q = g := k
      subst k
      rcases (HOWN.out.foot q rfl).1 with h5 | h5
      · exact h5
      · omega)
    have HQ3 := Lib.hid hq3
    have HB3 := Lib.hid hb3
    have HC3 := Lib.hid hch3
    have hs3 : wc.heap.size ≤ (((W.setCell ⟨g, i * 3, none⟩ (.int .u32 j.o)).setCell ⟨g, i * 3 + 1, none⟩ (.int .u16 j.s)).setCell ⟨g, i * 3 + 2, none⟩ (.int .i64 j.g)).heap.size := Nat.le_trans hE.out.size hc3.size
    clear hc3 hq3 hb3 hch3 hoW hgb hgg hgq
    go_wp2_with fail
    try simp only [Lex.onlyN]
    go_wp2_with fail
    clear p0 p1 p2 f0 f1 f2
    generalize ((W.setCell ⟨g, i * 3, none⟩ (.int .u32 j.o)).setCell ⟨g, i * 3 + 1, none⟩ (.int .u16 j.s)).setCell ⟨g, i * 3 + 2, none⟩ (.int .i64 j.g) = w3 at *
    have hfew := HP.out.few
    refine (up_calls (fun q => Plus S w wc q ∧ q ≠ w.heap.size) gq gm (l1.set i j) i w3 HQ3.out (by rw [List.length_set]; exact hi) HP.out.g (by rw [List.length_set]; omega)).mono ?_
    rintro e w4 ⟨rfl, l', i', hway, hdn⟩
    have HWay := Lib.hid hway
    have HDn := Lib.hid hdn
    clear hway hdn
    obtain ⟨A', c', hat', _⟩ := HWay.out.q.row
    have hb4 := HWay.out.chg.at_ HB3.out (fun k => k.2 rfl)
    have hj' : at_ l' i' = j := by rw [HWay.out.job, at_set hi, if_pos rfl]
    have hm' : (keyV j, (i' : Int)) ∈ ents l' := ents_mem.2 ⟨i', j, by rw [at_get HWay.out.lt, hj'], rfl⟩
    have q1 : ∀ W, Ext w4.drew W → W.cell? ⟨gq, 1, none⟩ = some (.map (some gm)) := fun W hW => blk_cell (i := 1) hat' (drew_ext hW) rfl
    have k0 : ∀ W, Ext w4.drew W → W.cell? ⟨w.heap.size, 0, none⟩ = some (.int .u32 j.o) := fun W hW => blk_cell (i := 0) hb4 (drew_ext hW) rfl
    have k1 : ∀ W, Ext w4.drew W → W.cell? ⟨w.heap.size, 1, none⟩ = some (.int .u16 j.s) := fun W hW => blk_cell (i := 1) hb4 (drew_ext hW) rfl
    have hll : ∀ W, Ext w4.drew W → (Instr.lookup 51 (.map (some gm)) (.agg #[.int .u32 j.o, .int .u16 j.s]) false).run Try.prog W = .ok (.int .i64 i') W := fun W hW => ((HWay.out.q.mp.ext (drew_ext hW)).hit key_keyed Try.underlying51 Try.underlying3 (int_zero W) hm').2
    clear hat' hb4 hj' hm'
    go_wp2_with fail
    refine Lex.wp_region_u [0, 1, 2, 3, 4, 5, 6, 7] [8] [] (by kernel_rfl) (by kernel_rfl) (by repeat (first | exact Lex.st_nil | refine Lex.st_cons (by first | exact Lex.nums_st | exact Lex.const_st | exact Lex.such_st | exact Lex.row_st | exact Lex.rowE_st | exact Lex.litR_st | assumption) ?_)) ?_; simp only [Lex.pick, List.getElem?_cons_succ, List.getElem?_cons_zero, List.map_cons, List.map_nil]
    repeat (first | (refine Lex.lexU_skip (by rfl) ?_; simp only [Act.put, List.setIfInBounds_toArray, List.set_cons_zero, List.set_cons_succ]) | (refine Lex.lexU_still (by rfl) (by rfl) (by first | exact Base.Ext.refl | exact Lex.Fill.refl) ?_; apply Exists.intro; refine ⟨fun W hW => ?_, ?_⟩; (have hE := Lex.ext_of_cls hW.1; have hE2 := Lex.ext_drew hE; clear hW; go_simp; try with_reducible rfl); simp only [Act.put, List.setIfInBounds_toArray, List.set_cons_zero, List.set_cons_succ]))
    refine Lex.lexU_nil (fun W hW => ?_)
    have hE5 := Lib.hid (Lex.ext_drew hW.1)
    clear hW q1 k0 k1 hll
    go_wp2_with fail
    refine (down_calls (fun q => Plus S w wc q ∧ q ≠ w.heap.size) gq gm l' i' _ (HWay.out.q.ext hE5.out) HWay.out.lt HDn.out (by rw [HWay.out.perm.length_eq, List.length_set]; omega)).mono ?_
    rintro e w6 ⟨rfl, l2, hq6, hp6, hh6, hc6⟩
    have HQ6 := Lib.hid hq6
    have HP6 := Lib.hid hp6
    have HH6 := Lib.hid hh6
    have HC6 := Lib.hid hc6
    clear hq6 hp6 hh6 hc6
    go_wp2_with fail
    try simp only [Lex.onlyN]
    go_wp2_with fail
    go_end0
    have hcc : Chg (fun q => Plus S w wc q ∧ q ≠ w.heap.size) w3 w6 := (chg_ext HWay.out.chg hE5.out).trans HC6.out
    have hs6 : wc.heap.size ≤ w6.heap.size := Nat.le_trans hs3 hcc.size
    refine ⟨rfl, l2, HQ6.out.mono (fun q hq => hq.1.imp id fun k => ⟨k.1, Nat.lt_of_lt_of_le k.2 hs6⟩) (Plus.lt HL.out (Nat.le_trans HP.out.chg.size hs6)), HH6.out, (HP6.out.trans HWay.out.perm).trans HP.out.perm, HC3.out.step hcc fun q hq k => ?_⟩
    rcases k.1 with h5 | h5
    · exact h5
    · omega
end Go.Proofs.Ytipmkddcdnbihaa.Urg
