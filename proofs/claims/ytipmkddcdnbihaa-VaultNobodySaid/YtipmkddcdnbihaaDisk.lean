import Derived.Test.YtipmkddcdnbihaaVec
import Derived.Test.YtipmkddcdnbihaaDiskP
import Derived.Test.YtipmkddcdnbihaaOrd
import Derived.Outline
import Derived.Deep.DeepCutAuto
namespace Go.Proofs.Ytipmkddcdnbihaa.Disk
open Go.RowKit Base Step Vec
open DiskP (readC over puts put1 cutN torn crash)

abbrev BytesD (w : World) (S : Nat → Prop) (v : Value) (xs : List Int) : Prop := Bytes 5 w S v xs
def wr (p : Int × Value) : List Value := [.int .i64 p.1, p.2]
theorem wr_len (p : Int × Value) : (wr p).length = 2 := rfl
theorem flat_len : ∀ (l : List (Int × Value)), (l.flatMap wr).length = l.length * 2
  | [] => rfl
  | p :: l => by rw [List.flatMap_cons, List.length_append, flat_len l, wr_len, List.length_cons]; omega
structure DiskIs (w : World) (S : Nat → Prop) (g : Nat) (CA : Option Addr) (cn cc : Nat) (LA : Option Addr) (ln lc : Nat) (size : Int) (cells : List (List Int)) (loose : List (Int × List Int)) (syncs : Int) (cvs : List Value) (lws : List (Int × Value)) : Prop where
  at_ : w.heap[g]? = some (.cells #[.int .i64 size, .slice CA cn cc, .slice LA ln lc, .int .i64 syncs] 241 (0, 0))
  cown : Own w S 55 1 (.slice CA cn cc) cn cvs
  lown : Own w S 284 2 (.slice LA ln lc) ln (lws.flatMap wr)
  crep : Each (BytesD w S) cvs cells
  lrep : Each (fun p q => p.1 = q.1 ∧ BytesD w S p.2 q.2) lws loose
  foot : S g
  lt : ∀ i, S i → i < w.heap.size
  inr : ∀ q ∈ loose, 0 ≤ q.1 ∧ q.1 < cells.length ∧ (q.2.length : Int) ≤ size
  clen : ∀ b ∈ cells, (b.length : Int) ≤ size
  most : size ≤ 4096 ∧ 1 ≤ size
  cells : 1 ≤ cells.length ∧ cells.length ≤ 1024
  syncs : 0 ≤ syncs
/-- A disk at block g, all of it in blocks of S. -/
def Disk (w : World) (S : Nat → Prop) (g : Nat) (size : Int) (cells : List (List Int)) (loose : List (Int × List Int)) (syncs : Int) : Prop := ∃ CA cn cc LA ln lc cvs lws, DiskIs w S g CA cn cc LA ln lc size cells loose syncs cvs lws
section
variable {w w' : World} {S S2 : Nat → Prop} {g : Nat} {CA : Option Addr} {cn cc : Nat} {LA : Option Addr} {ln lc : Nat} {size : Int} {cells : List (List Int)} {loose : List (Int × List Int)} {syncs : Int} {cvs : List Value} {lws : List (Int × Value)}
theorem DiskIs.len (h : DiskIs w S g CA cn cc LA ln lc size cells loose syncs cvs lws) : cells.length = cn ∧ loose.length = ln := by
  have h1 := h.cown.row.1
  have h2 := h.lown.row.1
  have h3 := h.crep.len
  have h4 := h.lrep.len
  rw [flat_len] at h2
  omega
theorem DiskIs.ext (h : DiskIs w S g CA cn cc LA ln lc size cells loose syncs cvs lws) (he : Ext w w') : DiskIs w' S g CA cn cc LA ln lc size cells loose syncs cvs lws :=
  ⟨he.at_ h.at_, h.cown.extNew he, h.lown.extNew he, h.crep.imp fun _ _ k => k.ext he, h.lrep.imp fun _ _ k => ⟨k.1, k.2.ext he⟩, h.foot, fun i hi => he.lt (h.lt i hi), h.inr, h.clen, h.most, h.cells, h.syncs⟩
theorem DiskIs.chg (h : DiskIs w S g CA cn cc LA ln lc size cells loose syncs cvs lws) (hc : Chg S2 w w') (hd : ∀ i, S i → ¬ S2 i) : DiskIs w' S g CA cn cc LA ln lc size cells loose syncs cvs lws :=
  ⟨hc.at_ h.at_ (hd _ h.foot), h.cown.chg hc hd, h.lown.chg hc hd, h.crep.imp fun _ _ k => k.chg hc hd, h.lrep.imp fun _ _ k => ⟨k.1, k.2.chg hc hd⟩, h.foot, fun i hi => Nat.lt_of_lt_of_le (h.lt i hi) hc.size, h.inr, h.clen, h.most, h.cells, h.syncs⟩
theorem DiskIs.mono (h : DiskIs w S g CA cn cc LA ln lc size cells loose syncs cvs lws) (hS : ∀ i, S i → S2 i) (hlt : ∀ i, S2 i → i < w.heap.size) : DiskIs w S2 g CA cn cc LA ln lc size cells loose syncs cvs lws :=
  ⟨h.at_, h.cown.mono fun i _ => hS i, h.lown.mono fun i _ => hS i, h.crep.imp fun _ _ k => k.mono fun i _ => hS i, h.lrep.imp fun _ _ k => ⟨k.1, k.2.mono fun i _ => hS i⟩, hS _ h.foot, hlt, h.inr, h.clen, h.most, h.cells, h.syncs⟩
theorem Disk.ext (h : Disk w S g size cells loose syncs) (he : Ext w w') : Disk w' S g size cells loose syncs := by
  obtain ⟨CA, cn, cc, LA, ln, lc, cvs, lws, h⟩ := h
  exact ⟨CA, cn, cc, LA, ln, lc, cvs, lws, h.ext he⟩
theorem Disk.chg (h : Disk w S g size cells loose syncs) (hc : Chg S2 w w') (hd : ∀ i, S i → ¬ S2 i) : Disk w' S g size cells loose syncs := by
  obtain ⟨CA, cn, cc, LA, ln, lc, cvs, lws, h⟩ := h
  exact ⟨CA, cn, cc, LA, ln, lc, cvs, lws, h.chg hc hd⟩
theorem Disk.lt (h : Disk w S g size cells loose syncs) : ∀ i, S i → i < w.heap.size := by
  obtain ⟨CA, cn, cc, LA, ln, lc, cvs, lws, h⟩ := h
  exact h.lt
theorem Disk.inr (h : Disk w S g size cells loose syncs) : ∀ q ∈ loose, 0 ≤ q.1 ∧ q.1 < cells.length ∧ (q.2.length : Int) ≤ size := by
  obtain ⟨CA, cn, cc, LA, ln, lc, cvs, lws, h⟩ := h
  exact h.inr
theorem Disk.mono (h : Disk w S g size cells loose syncs) (hS : ∀ i, S i → S2 i) (hlt : ∀ i, S2 i → i < w.heap.size) : Disk w S2 g size cells loose syncs := by
  obtain ⟨CA, cn, cc, LA, ln, lc, cvs, lws, h⟩ := h
  exact ⟨CA, cn, cc, LA, ln, lc, cvs, lws, h.mono hS hlt⟩
theorem Disk.len_le (h : Disk w S g size cells loose syncs) : size ≤ 4096 ∧ 1 ≤ size ∧ 1 ≤ cells.length ∧ cells.length ≤ 1024 ∧ ∀ b ∈ cells, (b.length : Int) ≤ size := by
  obtain ⟨CA, cn, cc, LA, ln, lc, cvs, lws, h⟩ := h
  exact ⟨h.most.1, h.most.2, h.cells.1, h.cells.2, h.clen⟩
theorem DiskIs.flds (h : DiskIs w S g CA cn cc LA ln lc size cells loose syncs cvs lws) : (∀ W, Ext w W → W.cell? ⟨g, 0, none⟩ = some (.int .i64 size)) ∧ (∀ W, Ext w W → W.cell? ⟨g, 1, none⟩ = some (.slice CA cn cc)) ∧ (∀ W, Ext w W → W.cell? ⟨g, 2, none⟩ = some (.slice LA ln lc)) ∧ (∀ W, Ext w W → W.cell? ⟨g, 3, none⟩ = some (.int .i64 syncs)) :=
  ⟨fun _ he => blk_cell h.at_ he rfl, fun _ he => blk_cell h.at_ he rfl, fun _ he => blk_cell h.at_ he rfl, fun _ he => blk_cell h.at_ he rfl⟩
/-- A cell's new bytes. -/
theorem DiskIs.put {ad : Addr} (h : DiskIs w S g (some ad) cn cc LA ln lc size cells loose syncs cvs lws) (K : Nat) {v : Value} {xs : List Int} (hv : BytesD w S v xs) (hl : (xs.length : Int) ≤ size) :
    DiskIs (w.setCell (ad.add K) v) S g (some ad) cn cc LA ln lc size (cells.set K xs) loose syncs (cvs.set K v) lws := by
  obtain ⟨cur, _, hb, _, hS, _⟩ := own_at h.cown
  have hk : ∀ i, i = ad.block → i < w.heap.size → ∃ c e' f, w.heap[i]? = some (.cells c e' f) ∧ 5 ≠ e' := fun i hi _ => by subst hi; exact ⟨_, _, _, hb, by decide⟩
  have hk2 : ∀ i, i = ad.block → i < w.heap.size → ∃ c e' f, w.heap[i]? = some (.cells c e' f) ∧ 284 ≠ e' := fun i hi _ => by subst hi; exact ⟨_, _, _, hb, by decide⟩
  have hc : Chg (fun i => i = ad.block) w (w.setCell (ad.add K) v) := Chg.setCell (S := fun i => i = ad.block) (Chg.refl _ _) (p := ad.add K) (block_add _ _) v
  have hne : g ≠ ad.block := fun e => h.cown.ne h.at_ (by decide) (by rw [e]; rfl)
  exact ⟨hc.at_ h.at_ hne, own_setv h.cown K v, Own.kind h.lown hc hk2, (h.crep.imp fun _ _ k => k.kind hc hk).set K (hv.kind hc hk), h.lrep.imp fun _ _ k => ⟨k.1, k.2.kind hc hk⟩, h.foot, fun i hi => by simpa using h.lt i hi,
    fun q hq => by simpa using h.inr q hq, fun b hb => (List.mem_or_eq_of_mem_set hb).elim (h.clen b) fun e => by rw [e]; exact hl, h.most, by simpa using h.cells, h.syncs⟩
/-- Other loose writes. -/
theorem DiskIs.putL (h : DiskIs w S g CA cn cc LA ln lc size cells loose syncs cvs lws) {LA' : Option Addr} {ln' lc' : Nat} {loose' : List (Int × List Int)} {lws' : List (Int × Value)} (ho : Own w S 284 2 (.slice LA' ln' lc') ln' (lws'.flatMap wr))
    (hr : Each (fun p q => p.1 = q.1 ∧ BytesD w S p.2 q.2) lws' loose') (hi : ∀ q ∈ loose', 0 ≤ q.1 ∧ q.1 < cells.length ∧ (q.2.length : Int) ≤ size) :
    DiskIs (w.setCell ⟨g, 2, none⟩ (.slice LA' ln' lc')) S g CA cn cc LA' ln' lc' size cells loose' syncs cvs lws' :=
  ⟨set_blk h.at_ _, own_put h.cown h.at_ (by decide), own_put ho h.at_ (by decide), h.crep.imp fun _ _ k => k.put h.at_ (by decide) _, hr.imp fun _ _ k => ⟨k.1, k.2.put h.at_ (by decide) _⟩, h.foot, fun i hi => by simpa using h.lt i hi, hi, h.clen, h.most, h.cells, h.syncs⟩
/-- A row of loose writes that has grown is stored. -/
theorem DiskIs.app (h : DiskIs w S g CA cn cc LA ln lc size cells loose syncs cvs lws) (hc : Chg (fun i => (Value.slice LA ln lc).ownBlock = some i) w w') (hS : ∀ i, S i → S2 i) (hlt : ∀ i, S2 i → i < w'.heap.size) {LA' : Option Addr} {ln' lc' : Nat} {loose' : List (Int × List Int)} {lws' : List (Int × Value)}
    (ho : Own w' S2 284 2 (.slice LA' ln' lc') ln' (lws'.flatMap wr)) (hr : Each (fun p q => p.1 = q.1 ∧ BytesD w' S2 p.2 q.2) lws' loose') (hi : ∀ q ∈ loose', 0 ≤ q.1 ∧ q.1 < cells.length ∧ (q.2.length : Int) ≤ size) :
    (w'.cell? ⟨g, 2, none⟩ = some (.slice LA ln lc) ∧ w'.frozen? ⟨g, 2, none⟩ = false) ∧ DiskIs (w'.setCell ⟨g, 2, none⟩ (.slice LA' ln' lc')) S2 g CA cn cc LA' ln' lc' size cells loose' syncs cvs lws' := by
  have hat := hc.at_ h.at_ (h.lown.ne h.at_ (by decide))
  have hown := (Own.kind h.cown hc (own_kinds h.lown (by decide))).mono fun i _ => hS i
  have hrep := h.crep.imp fun _ _ k => (k.kind hc (own_kinds h.lown (by decide))).mono fun i _ => hS i
  exact ⟨⟨blk_cell hat (Ext.refl _) rfl, blk_free hat (Ext.refl _) 2⟩, set_blk hat _, own_put hown hat (by decide), own_put ho hat (by decide), hrep.imp fun _ _ k => k.put hat (by decide) _, hr.imp fun _ _ k => ⟨k.1, k.2.put hat (by decide) _⟩, hS _ h.foot, fun i hi => by simpa using hlt i hi, hi, h.clen, h.most, h.cells, h.syncs⟩
theorem DiskIs.putS (h : DiskIs w S g CA cn cc LA ln lc size cells loose syncs cvs lws) {n : Int} (hn : 0 ≤ n) :
    DiskIs (w.setCell ⟨g, 3, none⟩ (.int .i64 n)) S g CA cn cc LA ln lc size cells loose n cvs lws :=
  ⟨set_blk h.at_ _, own_put h.cown h.at_ (by decide), own_put h.lown h.at_ (by decide), h.crep.imp fun _ _ k => k.put h.at_ (by decide) _, h.lrep.imp fun _ _ k => ⟨k.1, k.2.put h.at_ (by decide) _⟩, h.foot, fun i hi => by simpa using h.lt i hi, h.inr, h.clen, h.most, h.cells, hn⟩
/-- A loose write's two cells. -/
theorem DiskIs.wat (h : DiskIs w S g CA cn cc LA ln lc size cells loose syncs cvs lws) {m : Nat} (hm : m < loose.length) : ∃ (ad : Addr) (K : Nat) (A : Option Addr) (n c : Nat), LA = some ad ∧ loose[m]? = some ((K : Int), (loose[m]).2) ∧ K < cells.length ∧ BytesD w S (.slice A n c) (loose[m]).2 ∧
    w.cell? (ad.add (m * 2)) = some (.int .i64 (K : Nat)) ∧ w.cell? ⟨(ad.add (m * 2)).block, (ad.add (m * 2)).off + 1, none⟩ = some (.slice A n c) := by
  have hq : loose[m]? = some loose[m] := List.getElem?_eq_getElem hm
  obtain ⟨p, hp, hpq, hb⟩ := h.lrep.at_ hq
  obtain ⟨h0, h1, _⟩ := h.inr _ (List.getElem_mem hm)
  obtain ⟨K, hK⟩ := Int.eq_ofNat_of_zero_le h0
  obtain ⟨A, n, c, hv, _⟩ := id hb
  have g0 := get_flat wr 2 wr_len lws m 0 p hp (by omega)
  have g1 := get_flat wr 2 wr_len lws m 1 p hp (by omega)
  obtain ⟨ad, hA, k0⟩ := own_cell h.lown (j := m * 2 + 0) (u := .int .i64 p.1) (by rw [g0]; rfl)
  obtain ⟨ad', hA', k1⟩ := own_cell h.lown (j := m * 2 + 1) (u := p.2) (by rw [g1]; rfl)
  rw [hA] at hA'
  cases hA'
  rw [Nat.add_zero, hpq, hK] at k0
  rw [← add_of_add, hv] at k1
  refine ⟨ad, K, A, n, c, hA, by rw [hq]; congr 1; exact Prod.ext hK rfl, by omega, by rw [← hv]; exact hb, k0, k1⟩
end

set_option maxRecDepth 100000 in
theorem len_calls (S : Nat → Prop) (g : Nat) (size : Int) (cells : List (List Int)) (loose : List (Int × List Int)) (syncs : Int) (w : World) (h : Disk w S g size cells loose syncs) :
    Calls Try.prog 124 #[.pointer (some ⟨g, 0, none⟩)] w fun e w' => e = .returned (.tuple #[.int .i64 cells.length, .int .i64 size]) ∧ Ext w w' := by
  obtain ⟨CA, cn, cc, LA, ln, lc, cvs, lws, h⟩ := h
  obtain ⟨rfl, rfl⟩ := h.len
  obtain ⟨d0, d1, _⟩ := h.flds
  replace d0 : ∀ W, Ext w.drew W → W.cell? ⟨g, 0, none⟩ = some (.int .i64 size) := fun W hW => d0 W (drew_ext hW)
  replace d1 : ∀ W, Ext w.drew W → W.cell? ⟨g, 1, none⟩ = some (.slice CA cells.length cc) := fun W hW => d1 W (drew_ext hW)
  go_enter Try.func124, Try.ntmps124
  go_wp2_with fail
  refine Lex.wp_region_ext [] (by kernel_rfl) (by kernel_rfl) (by repeat (first | exact Lex.st_nil | refine Lex.st_cons (by first | exact Lex.nums_st | exact Lex.const_st | exact Lex.such_st | exact Lex.row_st | exact Lex.rowE_st | exact Lex.litR_st | assumption) ?_)) ?_
  repeat (first | (refine Lex.lex_skip (by rfl) ?_; simp only [Act.put, List.setIfInBounds_toArray, List.set_cons_zero, List.set_cons_succ]) | (refine Lex.lex_still (by rfl) (by rfl) ?_; apply Exists.intro; refine ⟨fun W hW => ?_, ?_⟩; (have hE := hW.1; have hE2 := Base.Ext.trans (Base.Ext.drew (Base.Ext.refl _)) hW.1; clear hW; go_simp; try with_reducible rfl); simp only [Act.put, List.setIfInBounds_toArray, List.set_cons_zero, List.set_cons_succ]))
  refine Lex.lex_nil (fun W hW => ?_)
  have hE := drew_ext hW.1
  clear hW
  go_wp2_with fail
  go_ret2
  exact ⟨rfl, hE⟩
set_option maxRecDepth 100000 in
set_option maxHeartbeats 1000000 in
theorem read_calls (S : Nat → Prop) (g : Nat) (size : Int) (cells : List (List Int)) (loose : List (Int × List Int)) (syncs : Int) (w : World) (h : Disk w S g size cells loose syncs) (c : Nat) (hc : c < cells.length) (hx : loose.length ≤ 1099511627776) :
    Calls Try.prog 126 #[.pointer (some ⟨g, 0, none⟩), .int .i64 c] w fun e w' => Ext w w' ∧ ∃ A' n' c', e = .returned (.slice A' n' c') ∧ New w w' 5 1 A' n' c' (nums .u8 (readC cells loose c)) ∧ ∀ x ∈ readC cells loose c, (Lit.int .u8 x).wf = true := by
  obtain ⟨CA, cn, cc, LA, ln, lc, cvs, lws, h⟩ := h
  obtain ⟨rfl, rfl⟩ := h.len
  obtain ⟨_, d1, d2, _⟩ := h.flds
  have q1 := d1 _ (Ext.refl w)
  have q2 := d2 _ (Ext.refl w)
  have hm := h.most.1
  have hcm := h.cells.2
  clear d1 d2
  go_enter Try.func126, Try.ntmps126
  go_wp2_with fail
  go_loop [5] (fun i => ∃ k : Nat, k ≤ loose.length ∧ i = .int .i64 ((k : Int) - 1) ∧ ∀ q ∈ loose.drop k, q.1 ≠ (c : Int)) (fun i => (intOf i + 1).toNat)
  case atStart => exact ⟨loose.length, Nat.le_refl _, rfl, by simp⟩
  case round =>
    obtain ⟨k, hk, rfl, hno⟩ := hrel
    rcases Nat.eq_zero_or_pos k with h0 | h0
    · subst h0
      obtain ⟨v, hv, hb⟩ := h.crep.at_ (List.getElem?_eq_getElem hc)
      obtain ⟨A, n, c', rfl, _⟩ := id hb
      obtain ⟨ad, rfl, hcell⟩ := own_cell h.cown hv
      have HR : Hid (readC cells loose c = cells[c]) := Lib.hid (by
        rw [DiskP.readC, DiskP.over_none (by simpa using hno), List.getD_eq_getElem?_getD, List.getElem?_eq_getElem hc]; rfl)
      have hbl := h.clen _ (List.getElem_mem hc)
      have hl := hb.len
      have hr := hb.rd
      clear hno
      go_wp2_with fail
      refine (clone8 A n c' _ _ hr (by omega)).mono ?_
      rintro e w1 ⟨he1, A1, c1, rfl, ho1⟩
      go_wp2_with fail
      go_ret
      exact ⟨he1, A1, n, c1, rfl, by rw [HR.out]; exact ⟨ho1, hr.wf⟩⟩
    · obtain ⟨m, rfl⟩ : ∃ m, k = m + 1 := ⟨k - 1, by omega⟩
      obtain ⟨ad, K, A, n, c', rfl, hq, hK, hb, k0, k1⟩ := h.wat (m := m) (by omega)
      have hi : (((m + 1 : Nat)) : Int) - 1 = (m : Int) := by omega
      rw [hi]
      clear hi
      have hql := (h.inr _ (List.mem_of_getElem? hq)).2.2
      have hl := hb.len
      have hr := hb.rd
      by_cases hKc : K = c
      · have HR : Hid (readC cells loose c = loose[m].2) := Lib.hid (by rw [DiskP.readC, DiskP.over_hit hq (by rw [hKc]) hno])
        subst hKc
        clear hno
        go_wp2_with fail
        refine (clone8 A n c' _ _ hr (by omega)).mono ?_
        rintro e w1 ⟨he1, A1, c1, rfl, ho1⟩
        go_wp2_with fail
        go_ret
        exact ⟨he1, A1, n, c1, rfl, by rw [HR.out]; exact ⟨ho1, hr.wf⟩⟩
      · have HN : Hid (∀ q ∈ loose.drop m, q.1 ≠ (c : Int)) := Lib.hid (by
          intro q hq2
          have hm1 := (List.getElem?_eq_some_iff.1 hq)
          rw [← List.getElem_cons_drop hm1.1] at hq2
          rcases List.mem_cons.1 hq2 with h2 | h2
          · rw [h2, hm1.2]; simp; omega
          · exact hno q h2)
        have hKc' : ((K : Int) == (c : Int)) = false := by simp; omega
        clear hno hq
        go_wp2_with fail
        exact ⟨⟨m, by omega, rfl, HN.out⟩, by simp [intOf]⟩
set_option maxRecDepth 100000 in
theorem read_no (S : Nat → Prop) (g : Nat) (size : Int) (cells : List (List Int)) (loose : List (Int × List Int)) (syncs : Int) (w : World) (h : Disk w S g size cells loose syncs) (c : Int) (hc : c < 0 ∨ cells.length ≤ c) :
    Calls Try.prog 126 #[.pointer (some ⟨g, 0, none⟩), .int .i64 c] w fun e w' => e = .returned (.slice none 0 0) ∧ w = w' := by
  obtain ⟨CA, cn, cc, LA, ln, lc, cvs, lws, h⟩ := h
  obtain ⟨rfl, rfl⟩ := h.len
  obtain ⟨_, d1, d2, _⟩ := h.flds
  have q1 := d1 _ (Ext.refl w)
  clear d1 d2
  have hc : c < 0 ∨ (0 ≤ c ∧ cells.length ≤ c) := by omega
  rcases hc with hc | hc
  all_goals
    try obtain ⟨hc0, hc⟩ := hc
    go_enter Try.func126, Try.ntmps126
    go_wp2_with fail
    go_ret
    exact ⟨rfl, rfl⟩
set_option maxRecDepth 100000 in
set_option maxHeartbeats 1000000 in
theorem torn_calls (A : Option Addr) (n c : Nat) (xs : List Int) (B : Option Addr) (m d : Nat) (ys : List Int) (k : Int) (w : World) (hr : Rd w .u8 A n xs) (hs : Rd w .u8 B m ys) (hn : n ≤ 1099511627776) (hm : m ≤ 1099511627776) (hk : (Lit.int .i64 k).wf = true) (hnc : n ≤ c) (hmd : m ≤ d) :
    Calls Try.prog 190 #[.slice A n c, .slice B m d, .int .i64 k] w fun e w' => Ext w w' ∧ ∃ A' n' c', e = .returned (.slice A' n' c') ∧ New w w' 5 1 A' n' c' (nums .u8 (torn xs ys k)) := by
  obtain ⟨hk0, hk1⟩ := wf_i64 hk
  obtain rfl := hr.len
  obtain rfl := hs.len
  have hcl := DiskP.cutN_le k ys.length
  have HC : Hid ((cutN k ys.length : Int) = min (max k 0) (ys.length : Int)) := Lib.hid (by unfold cutN; omega)
  have HT : Hid (torn xs ys k = ys.take (cutN k ys.length) ++ xs.drop (cutN k ys.length)) := Lib.hid rfl
  clear hk
  go_enter Try.func190, Try.ntmps190
  go_upto_region 1 with fail
  go_cut [2] (fun t wx => t = .int .i64 (cutN k ys.length : Nat) ∧ w = wx)
  case first =>
    go_wp2_with fail
    all_goals
      go_meet
      refine ⟨?_, rfl⟩
      rw [HC.out]
      congr 1
      omega
  case rest =>
    obtain ⟨rfl, rfl⟩ := hcut
    clear HC
    generalize cutN k ys.length = N at *
    go_wp2_with fail
    refine (clone8 B N d (ys.take N) _ (rd_take hs hcl) (by omega)).mono ?_
    rintro e w1 ⟨he1, A1, c1, rfl, ho1⟩
    by_cases hlt : N < xs.length
    · obtain ⟨ad, rfl, _⟩ := hr.cell (by omega)
      have hrd := (rd_drop hr (m := N) (by omega)).ext he1
      have i0 : (0 : Int) ≤ N := by omega
      have i1 : (N : Int) ≤ xs.length := by omega
      have i2 : (N : Int) ≤ c := by omega
      have i3 : (xs.length : Int) ≤ c := by omega
      have i4 : (N : Int) < c := by omega
      go_wp2_with (at_builtin; refine wpList_more w _ rfl _ _ _ rfl 5 .u8 1 Try.underlying55 Pack.info_u8 (by decide) _ N (ys.take N) rfl ho1 he1 (some (ad.add N)) (xs.length - N) (c - N) (xs.drop N) rfl hrd ?c2 ?_)
      case c2 => omega
      intro A2 c2 w2 ho2 he2
      go_wp2_with fail
      go_ret
      exact ⟨he2, _, _, _, rfl, by rw [HT.out]; exact ho2⟩
    · have hd : xs.drop N = [] := List.drop_eq_nil_of_le (by omega)
      have HD := Lib.hid hd
      clear hd
      go_wp2_with fail
      go_ret
      exact ⟨he1, _, _, _, rfl, by rw [HT.out, HD.out, List.append_nil]; exact ho1⟩
theorem info_b : (Try.prog.info? 55).map (fun i => (i.zero, i.size, i.bytes)) = some (some (.slice none 0 0), 1, 24) := by kernel_rfl
theorem info_w : (Try.prog.info? 284).map (fun i => (i.zero, i.size, i.bytes)) = some (some (.agg #[.int .i64 0, .slice none 0 0]), 2, 32) := by kernel_rfl
set_option maxRecDepth 100000 in
theorem new_calls (cells : Nat) (size : Int) (w : World) (h1 : 1 ≤ cells) (h2 : cells ≤ 1024) (h3 : 1 ≤ size) (h4 : size ≤ 4096) :
    Calls Try.prog 67 #[.int .i64 cells, .int .i64 size] w fun e w' => ∃ g, e = .returned (.tuple #[.pointer (some ⟨g, 0, none⟩), .int .i64 0]) ∧ Ext w w' ∧ Disk w' (Plus (fun _ => False) w w') g size (List.replicate cells []) [] 0 := by
  have hmk := fun W => run_make_row' (P := Try.prog) 132 55 (.slice none 0 0) 24 Try.underlying132 info_b rfl .i64 .i64 cells (by omega) (by omega) W
  go_enter Try.func67, Try.ntmps67
  go_wp2_with fail
  go_ret2
  have hmc : (madeCells #[Value.slice none 0 0] cells).toList = List.replicate cells (.slice none 0 0) := by
    apply List.ext_getElem
    · simp [madeCells]
    · intro i h1 h2
      simp [madeCells, Nat.mod_one]
  have hx := (Ext.refl w).alloc (.cells (madeCells #[.slice none 0 0] cells) 55)
  have hx2 := hx.alloc (.cells #[.int .i64 size, .slice (some ⟨w.heap.size, 0, none⟩) cells cells, .slice none 0 0, .int .i64 0] 241)
  refine ⟨w.heap.size + 1, by simp, hx2, some ⟨w.heap.size, 0, none⟩, cells, cells, none, 0, 0, List.replicate cells (.slice none 0 0), [], ?_⟩
  refine ⟨?_, ⟨?_, ?_⟩, Own.nil _ _ _ _, Each.rep _ (Bytes.nil _ _ _), Each.nil _, .inr ⟨by simp, by simp⟩, Plus.lt (fun _ h => h.elim) hx2.size, by simp, ?_, ⟨h4, h3⟩, by simp; omega, Int.le_refl 0⟩
  · have := at_new (w.alloc (.cells (madeCells #[.slice none 0 0] cells) 55)) (.cells #[.int .i64 size, .slice (some ⟨w.heap.size, 0, none⟩) cells cells, .slice none 0 0, .int .i64 0] 241)
    simpa using this
  · have := World.ownsRow_lit (base := 0) (size := 1) (e := 55) w (madeCells #[.slice none 0 0] cells) cells (Nat.zero_le _) (by simp only [maxLen]; omega) (by simp [size_madeCells])
    rw [hmc] at this
    exact (Own.extNew (S := fun _ => True) ⟨this, fun _ _ => trivial⟩ (Ext.new _ _)).row
  · intro k hk
    simp [Value.ownBlock] at hk
    subst hk
    exact .inr ⟨Nat.le_refl _, by simp; omega⟩
  · intro b hb
    rw [List.eq_of_mem_replicate hb]
    simp
    omega
set_option maxRecDepth 100000 in
theorem new_no (cells size : Int) (w : World) (h : cells < 1 ∨ 1024 < cells ∨ size < 1 ∨ 4096 < size) :
    Calls Try.prog 67 #[.int .i64 cells, .int .i64 size] w fun e w' => e = .returned (.tuple #[.pointer none, .int .i64 1]) ∧ w = w' := by
  have h : cells < 1 ∨ (1 ≤ cells ∧ 1024 < cells) ∨ (1 ≤ cells ∧ cells ≤ 1024 ∧ size < 1) ∨ (1 ≤ cells ∧ cells ≤ 1024 ∧ 1 ≤ size ∧ 4096 < size) := by omega
  rcases h with h | ⟨h, h2⟩ | ⟨h, h2, h3⟩ | ⟨h, h2, h3, h4⟩
  all_goals
    go_enter Try.func67, Try.ntmps67
    go_wp2_with fail
    go_ret2
    exact ⟨rfl, rfl⟩
set_option maxRecDepth 100000 in
set_option maxHeartbeats 1000000 in
theorem write_calls (S : Nat → Prop) (g : Nat) (size : Int) (cells : List (List Int)) (loose : List (Int × List Int)) (syncs : Int) (w : World) (h : Disk w S g size cells loose syncs) (c : Nat) (hc : c < cells.length) (B : Option Addr) (m d : Nat) (ys : List Int) (hr : Rd w .u8 B m ys) (hm : (m : Int) ≤ size) (hx : loose.length ≤ 1099511627776) :
    Calls Try.prog 133 #[.pointer (some ⟨g, 0, none⟩), .int .i64 c, .slice B m d] w fun e w' => e = .returned (.int .i64 0) ∧ Disk w' (Plus S w w') g size cells (loose ++ [((c : Int), ys)]) syncs ∧ Chg S w w' := by
  obtain ⟨CA, cn, cc, LA, ln, lc, cvs, lws, h⟩ := h
  obtain ⟨rfl, rfl⟩ := h.len
  obtain ⟨d0, d1, d2, _⟩ := h.flds
  have q0 := d0 _ (Ext.refl w)
  have q1 := d1 _ (Ext.refl w)
  have hsz := h.most.1
  have hcm := h.cells.2
  obtain rfl := hr.len
  replace d2 : ∀ W, Ext w.drew W → W.cell? ⟨g, 2, none⟩ = some (.slice LA loose.length lc) := fun W hW => d2 W (drew_ext hW)
  clear d0 d1
  go_enter Try.func133, Try.ntmps133
  go_wp2_with fail
  clear q0 q1
  refine Lex.wp_region_ord [0] [1, 2, 3, 4, 5, 6, 7, 8, 9] [10, 11, 12, 13] [(7, .row w 5 .u8 ys.length ys), (9, .litR [.int .i64 c] w 5 .u8 ys.length ys [])] (by kernel_rfl) (by kernel_rfl) (by repeat (first | exact Lex.st_nil | refine Lex.st_cons (by first | exact Lex.nums_st | exact Lex.const_st | exact Lex.such_st | exact Lex.row_st | exact Lex.rowE_st | exact Lex.litR_st) ?_)) ?_; simp only [Lex.pick, List.getElem?_cons_succ, List.getElem?_cons_zero, List.map_cons, List.map_nil]; repeat (refine Lex.preL_cons (by rfl) ?_; apply Exists.intro; refine ⟨fun W => ?_, ?_⟩; (go_simp; try with_reducible rfl); simp only [Act.put, List.setIfInBounds_toArray, List.set_cons_zero, List.set_cons_succ]); refine Lex.preL_nil ?_
  repeat (first | (refine Lex.lexH_skip (by rfl) ?_; simp only [Act.put, List.setIfInBounds_toArray, List.set_cons_zero, List.set_cons_succ]) | (refine Lex.lexH_still (by rfl) (by rfl) ?_; apply Exists.intro; refine ⟨fun W hW => ?_, ?_⟩; (have hE := hW.1; have hE2 := Base.Ext.trans (Base.Ext.drew (Base.Ext.refl _)) hW.1; clear hW; go_simp; try with_reducible rfl); simp only [Act.put, List.setIfInBounds_toArray, List.set_cons_zero, List.set_cons_succ]))
  refine Lex.lexH_loose (by rfl) (by rfl) (fun W hW => ?_) ?_
  · have hE := drew_ext hW.1
    go_simp
    refine (clone8 B ys.length d ys _ (hr.ext hE) (by omega)).mono ?_
    rintro e w10 ⟨he10, A10, c10, rfl, ho10⟩
    exact ⟨_, rfl, ⟨A10, c10, rfl, ho10.cap.1⟩, he10, Lex.row_mk (ho10.mono fun i _ hi => Nat.le_trans hE.size hi)⟩
  rintro v ⟨A10, c10, rfl, -⟩
  simp only [Act.put, List.setIfInBounds_toArray, List.set_cons_zero, List.set_cons_succ]
  repeat (first | (refine Lex.lexH_skip (by rfl) ?_; simp only [Act.put, List.setIfInBounds_toArray, List.set_cons_zero, List.set_cons_succ]) | (refine Lex.lexH_still (by rfl) (by rfl) ?_; apply Exists.intro; refine ⟨fun W hW => ?_, ?_⟩; (have hE := hW.1; have hE2 := Base.Ext.trans (Base.Ext.drew (Base.Ext.refl _)) hW.1; clear hW; go_simp; try with_reducible rfl); simp only [Act.put, List.setIfInBounds_toArray, List.set_cons_zero, List.set_cons_succ]))
  refine Lex.lexH_loose (by rfl) (by rfl) (fun W hW => ?_) ?_
  · go_simp
    exact ⟨⟨_, rfl⟩, Ext.new _ _, Lex.lit_mk (vs := [.int .i64 c, .slice A10 ys.length c10]) ⟨A10, c10, rfl, (Lex.upd_here (hW.2 7 (by kernel_rfl)) _ _ rfl).extNew (Ext.new _ _)⟩⟩
  rintro v ⟨g10, rfl⟩
  simp only [Act.put, List.setIfInBounds_toArray, List.set_cons_zero, List.set_cons_succ]
  repeat (first | (refine Lex.lexH_skip (by rfl) ?_; simp only [Act.put, List.setIfInBounds_toArray, List.set_cons_zero, List.set_cons_succ]) | (refine Lex.lexH_still (by rfl) (by rfl) ?_; apply Exists.intro; refine ⟨fun W hW => ?_, ?_⟩; (have hE := hW.1; have hE2 := Base.Ext.trans (Base.Ext.drew (Base.Ext.refl _)) hW.1; clear hW; go_simp; try with_reducible rfl); simp only [Act.put, List.setIfInBounds_toArray, List.set_cons_zero, List.set_cons_succ]))
  refine Lex.lexH_nil (fun W hW => ?_)
  have hE := drew_ext hW.1
  obtain ⟨vs, ⟨A11, c11, rfl, ho11⟩, hvs⟩ := Lex.upd_here (hW.2 9) _ rfl
  have hi := h.ext hE
  clear hW d2
  go_wp2_with (at_builtin; refine wpList_appE _ rfl _ _ _ rfl (fun i => S i ∨ W.heap.size ≤ i) 284 _ 2 32 Try.underlying239 info_w rfl (by decide) (by decide) (.slice LA loose.length lc) _ (lws.flatMap wr) rfl (hi.lown.mono fun i _ hi => .inl hi) g10 1 [.int .i64 c, .slice A11 ys.length c11] rfl rfl hvs (by simp [Value.oneCell']) ?c2 (fun i hi => .inr hi) ?_)
  case c2 => omega
  intro A2 c2 w2 ho2 hc2
  have hsz2 := hc2.size
  have hsz1 := hE.size
  have hb11 : BytesD w2 (Plus S w w2) (.slice A11 ys.length c11) ys := by
    have h1 := (Bytes.new ho11 hr.wf).kind hc2 (own_kinds hi.lown (by decide))
    exact h1.mono fun i hlt hi => .inr ⟨hi, hlt⟩
  have ho3 : Own w2 (Plus S w w2) 284 2 (.slice A2 (loose.length + 1) c2) (loose.length + 1) ((lws ++ [((c : Int), Value.slice A11 ys.length c11)]).flatMap wr) := by
    rw [List.flatMap_append]
    exact ho2.mono fun i hlt hi => hi.elim .inl fun h => .inr ⟨by omega, hlt⟩
  have hr3 : Each (fun p q => p.1 = q.1 ∧ BytesD w2 (Plus S w w2) p.2 q.2) (lws ++ [((c : Int), Value.slice A11 ys.length c11)]) (loose ++ [((c : Int), ys)]) :=
    (hi.lrep.imp fun _ _ k => ⟨k.1, (k.2.kind hc2 (own_kinds hi.lown (by decide))).mono fun i _ => .inl⟩).snoc ⟨rfl, hb11⟩
  have hp := hi.app hc2 (S2 := Plus S w w2) (fun i => .inl) (Plus.lt h.lt (by omega)) ho3 hr3 (fun q hq => by
    rcases List.mem_append.1 hq with h1 | h1
    · exact h.inr q h1
    · rw [List.mem_singleton.1 h1]; exact ⟨by simp, by simp; omega, hm⟩)
  have hq2 := hp.1.1
  have hf2 := hp.1.2
  have hp2 := hp.2
  have hch : Chg S w w2 := ext_chg hE (hc2.mono fun i _ hi => h.lown.foot i hi)
  have hch2 := hch.setCell (p := ⟨g, 2, none⟩) h.foot (.slice A2 (loose.length + 1) c2)
  clear hp ho2 hc2 ho3 hr3 hb11 hvs
  go_wp2_with fail
  simp only [Lex.onlyN]
  go_wp2_with fail
  go_ret
  exact ⟨rfl, by rw [plus_set]; exact ⟨_, _, _, _, _, _, _, _, hp2⟩, hch2⟩
set_option maxRecDepth 100000 in
set_option maxHeartbeats 2000000 in
theorem sync_calls (S : Nat → Prop) (g : Nat) (size : Int) (cells : List (List Int)) (loose : List (Int × List Int)) (syncs : Int) (w : World) (h : Disk w S g size cells loose syncs) (hs : syncs ≤ 1099511627776) (hx : loose.length ≤ 1099511627776) :
    Calls Try.prog 134 #[.pointer (some ⟨g, 0, none⟩)] w fun e w' => e = .returned (.int .i64 0) ∧ Disk w' S g size (puts cells loose) [] (syncs + 1) ∧ Chg S w w' := by
  obtain ⟨CA, cn, cc, LA, ln, lc, cvs, lws, h⟩ := h
  obtain ⟨rfl, rfl⟩ := h.len
  have q2 := h.flds.2.2.1 _ (Ext.refl w)
  have hcm := h.cells.2
  have hs0 := h.syncs
  go_enter Try.func134, Try.ntmps134
  go_wp2_with fail
  go_loopw [12] (fun i wr => ∃ k : Nat, k ≤ loose.length ∧ i = .int .i64 k ∧ Chg S w wr ∧ ∃ cvs', DiskIs wr S g CA cells.length cc LA loose.length lc size (puts cells (loose.take k)) loose syncs cvs' lws) (fun i _ => loose.length - (intOf i).toNat)
  case atStart => exact ⟨0, Nat.zero_le _, rfl, Chg.refl _ _, cvs, h⟩
  case round =>
    clear h q2
    obtain ⟨k, hk, rfl, hch, cvs', h⟩ := hrel
    by_cases hlt : k < loose.length
    · obtain ⟨ad, K, A, n, c', rfl, hq, hK, hb, k0, k1⟩ := h.wat (m := k) hlt
      rw [DiskP.puts_length] at hK
      have hcv : k < loose.length := hlt
      have hlq := (h.inr _ (List.mem_of_getElem? hq)).2.2
      obtain ⟨u0, hu0, _⟩ := h.crep.at_ (i := K) (List.getElem?_eq_getElem (by rw [DiskP.puts_length]; exact hK))
      obtain ⟨ad2, rfl, _⟩ := own_cell h.cown hu0
      clear hu0
      have hE4 := Ext.new wr (.cells #[.int .i64 K, .slice A n c'] 284)
      have h4 := h.ext hE4
      have d1 : ∀ W, Ext (wr.alloc (.cells #[.int .i64 K, .slice A n c'] 284)).drew W → W.cell? ⟨g, 1, none⟩ = some (.slice (some ad2) cells.length cc) := fun W hW => h4.flds.2.1 W (drew_ext hW)
      have e0 : ∀ W, Ext (wr.alloc (.cells #[.int .i64 K, .slice A n c'] 284)).drew W → W.cell? ⟨wr.heap.size, 0, none⟩ = some (.int .i64 K) := fun W hW => blk_cell (at_new wr _) (drew_ext hW) rfl
      have e1 : ∀ W, Ext (wr.alloc (.cells #[.int .i64 K, .slice A n c'] 284)).drew W → W.cell? ⟨wr.heap.size, 1, none⟩ = some (.slice A n c') := fun W hW => blk_cell (at_new wr _) (drew_ext hW) rfl
      have HQ : Hid (loose.take (k + 1) = loose.take k ++ [((K : Int), (loose[k]).2)]) := Lib.hid (by
        rw [List.take_succ_eq_append_getElem hlt]
        have := (List.getElem?_eq_some_iff.1 hq).2
        rw [← this])
      clear hq
      go_wp2_with fail
      refine Lex.wp_region_tail 9 [] (by kernel_rfl) (by kernel_rfl) (by repeat (first | exact Lex.st_nil | refine Lex.st_cons (by first | exact Lex.nums_st | exact Lex.const_st | exact Lex.such_st | exact Lex.row_st | exact Lex.rowE_st | exact Lex.litR_st | assumption) ?_)) ?_; simp only [List.take_succ_cons, List.take_zero, List.drop_succ_cons, List.drop_zero]
      repeat (first | (refine Lex.lexT_skip (by rfl) ?_; simp only [Act.put, List.setIfInBounds_toArray, List.set_cons_zero, List.set_cons_succ]) | (refine Lex.lexT_still (by rfl) (by rfl) ?_; apply Exists.intro; refine ⟨fun W hW => ?_, ?_⟩; (have hE := hW.1; have hE2 := Base.Ext.trans (Base.Ext.drew (Base.Ext.refl _)) hW.1; clear hW; go_simp; try with_reducible rfl); simp only [Act.put, List.setIfInBounds_toArray, List.set_cons_zero, List.set_cons_succ]))
      refine Lex.lexT_nil (fun W hW => ?_)
      have hE5 := drew_ext hW.1
      have h5 := h4.ext hE5
      have hp := h5.put K (v := .slice A n c') (xs := loose[k].2) ((hb.ext hE4).ext hE5) hlq
      have hf5 : W.frozen? (ad2.add K) = false := own_free h5.cown K
      obtain ⟨u1, hu1, _⟩ := h5.crep.at_ (i := K) (List.getElem?_eq_getElem (by rw [DiskP.puts_length]; exact hK))
      obtain ⟨ad3, hA3, hc5⟩ := own_cell h5.cown hu1
      cases hA3
      have hS5 : S (ad2.add K).block := by rw [block_add]; exact h5.cown.foot _ rfl
      have hch5 := (chg_ext hch (hE4.trans hE5)).setCell hS5 (.slice A n c')
      clear hW d1 e0 e1 hu1 h4 h k0 k1 hE4 hE5
      go_wp2_with fail
      go_roundw
      case rel => exact ⟨k + 1, by omega, by go_num, hch5, _, by rw [HQ.out, DiskP.puts_snoc]; exact hp⟩
      case measure => simp [intOf]; omega
    · obtain rfl : k = loose.length := by omega
      rw [List.take_length] at h
      have f2 := blk_free h.at_ (Ext.refl _) 2
      have q2 := h.flds.2.2.1 _ (Ext.refl _)
      have hL := h.putL (LA' := none) (ln' := 0) (lc' := 0) (loose' := []) (lws' := []) (Own.nil _ _ _ _) (Each.nil _) (by simp)
      have f3 := blk_free hL.at_ (Ext.refl _) 3
      have q3 := hL.flds.2.2.2 _ (Ext.refl _)
      have hS := hL.putS (n := syncs + 1) (by omega)
      have hch2 := (hch.setCell (p := ⟨g, 2, none⟩) h.foot (.slice none 0 0)).setCell (p := ⟨g, 3, none⟩) h.foot (.int .i64 (syncs + 1))
      clear hk
      go_wp2_with fail
      go_ret
      exact ⟨rfl, ⟨_, _, _, _, _, _, _, _, hS⟩, hch2⟩
set_option maxRecDepth 100000 in
set_option maxHeartbeats 4000000 in
theorem crash_calls (S : Nat → Prop) (g : Nat) (size : Int) (cells : List (List Int)) (loose : List (Int × List Int)) (syncs : Int) (w : World) (h : Disk w S g size cells loose syncs) (keep bytes : Int) (hkw : (Lit.int .i64 keep).wf = true) (hbw : (Lit.int .i64 bytes).wf = true) (hx : loose.length ≤ 1099511627776) :
    Calls Try.prog 141 #[.pointer (some ⟨g, 0, none⟩), .int .i64 keep, .int .i64 bytes] w fun e w' => e = .returned (.int .i64 ((loose.length : Int) - cutN keep loose.length)) ∧ Disk w' (Plus S w w') g size (crash cells loose keep bytes) [] syncs ∧ Chg S w w' := by
  obtain ⟨CA, cn, cc, LA, ln, lc, cvs, lws, h⟩ := h
  obtain ⟨rfl, rfl⟩ := h.len
  obtain ⟨hk0, hk1⟩ := wf_i64 hkw
  have HBW := Lib.hid hbw
  have q2 := h.flds.2.2.1 _ (Ext.refl w)
  have hcm := h.cells.2
  have hcap := h.lown.cap.1
  have hNle := DiskP.cutN_le keep loose.length
  have HC : Hid ((cutN keep loose.length : Int) = min (max keep 0) (loose.length : Int)) := Lib.hid (by unfold cutN; omega)
  have HCR : Hid (crash cells loose keep bytes = match loose[cutN keep loose.length]? with | none => puts cells (loose.take (cutN keep loose.length)) | some q => put1 (puts cells (loose.take (cutN keep loose.length))) (q.1, torn ((puts cells (loose.take (cutN keep loose.length))).getD q.1.toNat []) q.2 bytes)) := Lib.hid rfl
  have hltw := h.lt
  clear hkw hbw
  generalize cutN keep loose.length = N at *
  go_enter Try.func141, Try.ntmps141
  go_upto_region 3 with fail
  go_cut [7] (fun t wx => t = .int .i64 (N : Nat) ∧ w = wx)
  case first =>
    go_wp2_with fail
    all_goals
      go_meet
      refine ⟨?_, rfl⟩
      rw [HC.out]
      congr 1
      omega
  case rest =>
    obtain ⟨rfl, rfl⟩ := hcut
    clear HC
    have i0 : (0 : Int) ≤ N := by omega
    have i1 : (N : Int) ≤ loose.length := by omega
    have i2 : (N : Int) ≤ lc := by omega
    have i3 : (loose.length : Int) ≤ lc := by omega
    go_wp2_with fail
    go_loopw [29] (fun i wr => ∃ k : Nat, k ≤ N ∧ i = .int .i64 k ∧ Chg S w wr ∧ ∃ cvs', DiskIs wr S g CA cells.length cc LA loose.length lc size (puts cells (loose.take k)) loose syncs cvs' lws) (fun i _ => N - (intOf i).toNat)
    case atStart => exact ⟨0, Nat.zero_le _, rfl, Chg.refl _ _, cvs, h⟩
    case round =>
      clear h q2
      obtain ⟨k, hk, rfl, hch, cvs', h⟩ := hrel
      by_cases hlt : k < N
      · obtain ⟨ad, K, A, n, c', rfl, hq, hK, hb, k0, k1⟩ := h.wat (m := k) (by omega)
        rw [DiskP.puts_length] at hK
        have hlq := (h.inr _ (List.mem_of_getElem? hq)).2.2
        obtain ⟨u0, hu0, _⟩ := h.crep.at_ (i := K) (List.getElem?_eq_getElem (by rw [DiskP.puts_length]; exact hK))
        obtain ⟨ad2, rfl, _⟩ := own_cell h.cown hu0
        clear hu0
        have hE4 := Ext.new wr (.cells #[.int .i64 K, .slice A n c'] 284)
        have h4 := h.ext hE4
        have d1 : ∀ W, Ext (wr.alloc (.cells #[.int .i64 K, .slice A n c'] 284)).drew W → W.cell? ⟨g, 1, none⟩ = some (.slice (some ad2) cells.length cc) := fun W hW => h4.flds.2.1 W (drew_ext hW)
        have e0 : ∀ W, Ext (wr.alloc (.cells #[.int .i64 K, .slice A n c'] 284)).drew W → W.cell? ⟨wr.heap.size, 0, none⟩ = some (.int .i64 K) := fun W hW => blk_cell (at_new wr _) (drew_ext hW) rfl
        have e1 : ∀ W, Ext (wr.alloc (.cells #[.int .i64 K, .slice A n c'] 284)).drew W → W.cell? ⟨wr.heap.size, 1, none⟩ = some (.slice A n c') := fun W hW => blk_cell (at_new wr _) (drew_ext hW) rfl
        have HQ : Hid (loose.take (k + 1) = loose.take k ++ [((K : Int), (loose[k]'(by omega)).2)]) := Lib.hid (by
          rw [List.take_succ_eq_append_getElem (by omega)]
          have := (List.getElem?_eq_some_iff.1 hq).2
          rw [← this])
        clear hq
        go_wp2_with fail
        refine Lex.wp_region_tail 9 [] (by kernel_rfl) (by kernel_rfl) (by repeat (first | exact Lex.st_nil | refine Lex.st_cons (by first | exact Lex.nums_st | exact Lex.const_st | exact Lex.such_st | exact Lex.row_st | exact Lex.rowE_st | exact Lex.litR_st | assumption) ?_)) ?_; simp only [List.take_succ_cons, List.take_zero, List.drop_succ_cons, List.drop_zero]
        repeat (first | (refine Lex.lexT_skip (by rfl) ?_; simp only [Act.put, List.setIfInBounds_toArray, List.set_cons_zero, List.set_cons_succ]) | (refine Lex.lexT_still (by rfl) (by rfl) ?_; apply Exists.intro; refine ⟨fun W hW => ?_, ?_⟩; (have hE := hW.1; have hE2 := Base.Ext.trans (Base.Ext.drew (Base.Ext.refl _)) hW.1; clear hW; go_simp; try with_reducible rfl); simp only [Act.put, List.setIfInBounds_toArray, List.set_cons_zero, List.set_cons_succ]))
        refine Lex.lexT_nil (fun W hW => ?_)
        have hE5 := drew_ext hW.1
        have h5 := h4.ext hE5
        have hp := h5.put K (v := .slice A n c') (xs := (loose[k]'(by omega)).2) ((hb.ext hE4).ext hE5) hlq
        have hf5 : W.frozen? (ad2.add K) = false := own_free h5.cown K
        obtain ⟨u1, hu1, _⟩ := h5.crep.at_ (i := K) (List.getElem?_eq_getElem (by rw [DiskP.puts_length]; exact hK))
        obtain ⟨ad3, hA3, hc5⟩ := own_cell h5.cown hu1
        cases hA3
        have hS5 : S (ad2.add K).block := by rw [block_add]; exact h5.cown.foot _ rfl
        have hch5 := (chg_ext hch (hE4.trans hE5)).setCell hS5 (.slice A n c')
        clear hW d1 e0 e1 hu1 h4 h k0 k1 hE4 hE5
        go_wp2_with fail
        go_roundw
        case rel => exact ⟨k + 1, by omega, by go_num, hch5, _, by rw [HQ.out, DiskP.puts_snoc]; exact hp⟩
        case measure => simp [intOf]; omega
      · obtain rfl : k = N := by omega
        have q2 := h.flds.2.2.1 _ (Ext.refl _)
        by_cases hl : k < loose.length
        · obtain ⟨ad, K, A, n, c', rfl, hq, hK, hb, k0, k1⟩ := h.wat (m := k) hl
          rw [DiskP.puts_length] at hK
          have hlq : ((loose[k]'hl).2.length : Int) ≤ size := (h.inr _ (List.mem_of_getElem? hq)).2.2
          have hcg : (puts cells (loose.take k))[K]? = some ((puts cells (loose.take k)).getD K []) := by
            rw [List.getD_eq_getElem?_getD, List.getElem?_eq_getElem (by rw [DiskP.puts_length]; exact hK)]; rfl
          obtain ⟨u0, hu0, hb0⟩ := h.crep.at_ hcg
          obtain ⟨B, m, d, rfl, _⟩ := id hb0
          obtain ⟨ad2, rfl, _⟩ := own_cell h.cown hu0
          have hlb := h.clen _ (List.mem_of_getElem? hcg)
          have hsz := h.most.1
          have hE4 := Ext.new wr (.cells #[.int .i64 K, .slice A n c'] 284)
          have h4 := h.ext hE4
          have d1 : ∀ W, Ext (wr.alloc (.cells #[.int .i64 K, .slice A n c'] 284)).drew W → W.cell? ⟨g, 1, none⟩ = some (.slice (some ad2) cells.length cc) := fun W hW => h4.flds.2.1 W (drew_ext hW)
          have d2 : ∀ W, Ext (wr.alloc (.cells #[.int .i64 K, .slice A n c'] 284)).drew W → W.cell? (ad2.add K) = some (.slice B m d) := fun W hW => by
            obtain ⟨ad3, hA3, hc⟩ := own_cell (h4.ext (drew_ext hW)).cown hu0
            cases hA3
            exact hc
          have e0 : ∀ W, Ext (wr.alloc (.cells #[.int .i64 K, .slice A n c'] 284)).drew W → W.cell? ⟨wr.heap.size, 0, none⟩ = some (.int .i64 K) := fun W hW => blk_cell (at_new wr _) (drew_ext hW) rfl
          have e1 : ∀ W, Ext (wr.alloc (.cells #[.int .i64 K, .slice A n c'] 284)).drew W → W.cell? ⟨wr.heap.size, 1, none⟩ = some (.slice A n c') := fun W hW => blk_cell (at_new wr _) (drew_ext hW) rfl
          have HCQ : Hid (crash cells loose keep bytes = (puts cells (loose.take k)).set K (torn ((puts cells (loose.take k)).getD K []) (loose[k]'hl).2 bytes)) := Lib.hid (by
            rw [HCR.out, hq]
            show put1 _ ((K : Int), _) = _
            simp [put1])
          have hml := hb0.len
          have hnl := hb.len
          have hmd : m ≤ d := by obtain ⟨_, _, _, e, ho, _⟩ := hb0; cases e; exact ho.cap.1
          have hnc : n ≤ c' := by obtain ⟨_, _, _, e, ho, _⟩ := hb; cases e; exact ho.cap.1
          have w1 : IntKind.i64.wrap ((loose.length : Int) - k) = loose.length - k := IntWalk.i64_in _ (by omega)
          have hgt : (0 : Int) < (loose.length : Int) - k := by omega
          have HTL := Lib.hid (DiskP.torn_length (was := (puts cells (loose.take k)).getD K []) (b := (loose[k]'hl).2) (n := bytes) (m := size.toNat) (by omega) (by omega))
          have HT := Lib.hid fun W (hr1 : Rd W .u8 B m ((puts cells (loose.take k)).getD K [])) (hr2 : Rd W .u8 A n (loose[k]'hl).2) => torn_calls B m d _ A n c' _ bytes W hr1 hr2 (by omega) (by omega) HBW.out hmd hnc
          have HWF := Lib.hid (DiskP.torn_all (n := bytes) hb0.rd.wf hb.rd.wf)
          generalize torn ((puts cells (loose.take k)).getD K []) (loose[k]'hl).2 bytes = TT at *
          have hrd0 := hb0.rd
          have hrd1 := hb.rd
          clear hq HCR hcg hb0 hb
          go_wp2_with fail
          refine Lex.wp_region_tail 19 [(17, .rowE wr 5 .u8 TT)] (by kernel_rfl) (by kernel_rfl) (by repeat (first | exact Lex.st_nil | refine Lex.st_cons (by first | exact Lex.nums_st | exact Lex.const_st | exact Lex.such_st | exact Lex.row_st | exact Lex.rowE_st | exact Lex.litR_st | assumption) ?_)) ?_; simp only [List.take_succ_cons, List.take_zero, List.drop_succ_cons, List.drop_zero]
          repeat (first | (refine Lex.lexT_skip (by rfl) ?_; simp only [Act.put, List.setIfInBounds_toArray, List.set_cons_zero, List.set_cons_succ]) | (refine Lex.lexT_still (by rfl) (by rfl) ?_; apply Exists.intro; refine ⟨fun W hW => ?_, ?_⟩; (have hE := hW.1; have hE2 := Base.Ext.trans (Base.Ext.drew (Base.Ext.refl _)) hW.1; clear hW; go_simp; try with_reducible rfl); simp only [Act.put, List.setIfInBounds_toArray, List.set_cons_zero, List.set_cons_succ]))
          refine Lex.lexT_loose (by rfl) (by rfl) (fun W hW => ?_) ?_
          · have hE := hE4.trans (drew_ext hW.1)
            go_simp
            refine (HT.out _ (hrd0.ext hE) (hrd1.ext hE)).mono ?_
            rintro e w10 ⟨he10, A10, n10, c10, rfl, ho10⟩
            exact ⟨_, rfl, ⟨A10, n10, c10, rfl, ho10.cap.1, (Bytes.new ho10 HWF.out).len⟩, he10, Lex.rowE_mk (ho10.mono fun i _ hi => Nat.le_trans hE.size hi)⟩
          rintro v ⟨A10, n10, c10, rfl, hc10, hl10⟩
          simp only [Act.put, List.setIfInBounds_toArray, List.set_cons_zero, List.set_cons_succ]
          repeat (first | (refine Lex.lexT_skip (by rfl) ?_; simp only [Act.put, List.setIfInBounds_toArray, List.set_cons_zero, List.set_cons_succ]) | (refine Lex.lexT_still (by rfl) (by rfl) ?_; apply Exists.intro; refine ⟨fun W hW => ?_, ?_⟩; (have hE := hW.1; have hE2 := Base.Ext.trans (Base.Ext.drew (Base.Ext.refl _)) hW.1; clear hW; go_simp; try with_reducible rfl); simp only [Act.put, List.setIfInBounds_toArray, List.set_cons_zero, List.set_cons_succ]))
          refine Lex.lexT_nil (fun W hW => ?_)
          have hE5 := hE4.trans (drew_ext hW.1)
          have ho5 := Lex.upd_here (hW.2 17) _ _ _ rfl
          have hsz0 := hch.size
          have hsz5 := hE5.size
          have h5 := (h.ext hE5).mono (S2 := Plus S w W) (fun i => .inl) (Plus.lt hltw (by omega))
          have hb5 : BytesD W (Plus S w W) (.slice A10 n10 c10) TT := (Bytes.new ho5 HWF.out).mono fun i hlt hi => .inr ⟨by omega, hlt⟩
          have hp := h5.put K hb5 (by have := HTL.out; omega)
          have hf5 : W.frozen? (ad2.add K) = false := own_free h5.cown K
          have hc5 := d2 _ hW.1
          have hS5 : S (ad2.add K).block := by rw [block_add]; exact h.cown.foot _ rfl
          have f2 := blk_free hp.at_ (Ext.refl _) 2
          have q3 := hp.flds.2.2.1 _ (Ext.refl _)
          have hL := hp.putL (LA' := none) (ln' := 0) (lc' := 0) (loose' := []) (lws' := []) (Own.nil _ _ _ _) (Each.nil _) (by simp)
          have hch5 := ((chg_ext hch hE5).setCell hS5 (.slice A10 n10 c10)).setCell (p := ⟨g, 2, none⟩) h.foot (.slice none 0 0)
          clear hW d1 d2 e0 e1 h4 h k0 k1 hE4 q2 hp h5 hb5
          go_wp2_with fail
          go_ret
          refine ⟨rfl, ?_, hch5⟩
          rw [HCQ.out, plus_set, plus_set]
          exact ⟨_, _, _, _, _, _, _, _, hL⟩
        · obtain rfl : k = loose.length := by omega
          have f2 := blk_free h.at_ (Ext.refl _) 2
          have hL := (h.mono (S2 := Plus S w wr) (fun i => .inl) (Plus.lt hltw hch.size)).putL (LA' := none) (ln' := 0) (lc' := 0) (loose' := []) (lws' := []) (Own.nil _ _ _ _) (Each.nil _) (by simp)
          have hch5 := hch.setCell (p := ⟨g, 2, none⟩) h.foot (.slice none 0 0)
          have HN : Hid (crash cells loose keep bytes = puts cells (loose.take loose.length)) := Lib.hid (by rw [HCR.out, List.getElem?_eq_none (Nat.le_refl _)])
          clear HCR
          go_wp2_with fail
          go_ret
          refine ⟨ret_int (by omega), ?_, hch5⟩
          rw [HN.out, plus_set]
          exact ⟨_, _, _, _, _, _, _, _, hL⟩
set_option maxRecDepth 100000 in
theorem write_no (S : Nat → Prop) (g : Nat) (size : Int) (cells : List (List Int)) (loose : List (Int × List Int)) (syncs : Int) (w : World) (h : Disk w S g size cells loose syncs) (c : Int) (hc : c < 0 ∨ cells.length ≤ c) (B : Option Addr) (m d : Nat) :
    Calls Try.prog 133 #[.pointer (some ⟨g, 0, none⟩), .int .i64 c, .slice B m d] w fun e w' => e = .returned (.int .i64 1) ∧ w = w' := by
  obtain ⟨CA, cn, cc, LA, ln, lc, cvs, lws, h⟩ := h
  obtain ⟨rfl, rfl⟩ := h.len
  have q1 := h.flds.2.1 _ (Ext.refl w)
  have hc : c < 0 ∨ (0 ≤ c ∧ cells.length ≤ c) := by omega
  rcases hc with hc | ⟨hc0, hc⟩
  all_goals
    go_enter Try.func133, Try.ntmps133
    go_wp2_with fail
    go_ret
    exact ⟨rfl, rfl⟩
set_option maxRecDepth 100000 in
theorem write_long (S : Nat → Prop) (g : Nat) (size : Int) (cells : List (List Int)) (loose : List (Int × List Int)) (syncs : Int) (w : World) (h : Disk w S g size cells loose syncs) (c : Nat) (hc : c < cells.length) (B : Option Addr) (m d : Nat) (hm : size < m) (hm2 : m ≤ 9223372036854775807) :
    Calls Try.prog 133 #[.pointer (some ⟨g, 0, none⟩), .int .i64 c, .slice B m d] w fun e w' => e = .returned (.int .i64 29) ∧ w = w' := by
  obtain ⟨CA, cn, cc, LA, ln, lc, cvs, lws, h⟩ := h
  obtain ⟨rfl, rfl⟩ := h.len
  obtain ⟨d0, d1, _, _⟩ := h.flds
  have q0 := d0 _ (Ext.refl w)
  have q1 := d1 _ (Ext.refl w)
  have hsz := h.most.1
  have hcm := h.cells.2
  clear d0 d1
  go_enter Try.func133, Try.ntmps133
  go_wp2_with fail
  go_ret
  exact ⟨rfl, rfl⟩
/-- Whatever is written: what is answered, and what is there behind it. -/
def Written (S : Nat → Prop) (g : Nat) (size : Int) (cells : List (List Int)) (loose : List (Int × List Int)) (syncs : Int) (c : Int) (ys : List Int) (w : World) (e : Ending) (w' : World) : Prop :=
  ∃ (r : Int) (loose' : List (Int × List Int)), e = .returned (.int .i64 r) ∧ Disk w' (Plus S w w') g size cells loose' syncs ∧ Chg S w w' ∧ ((r = 0 ∧ 0 ≤ c ∧ c < cells.length ∧ loose' = loose ++ [(c, ys)]) ∨ ((r == 0) = false ∧ loose' = loose))
theorem write_any (S : Nat → Prop) (g : Nat) (size : Int) (cells : List (List Int)) (loose : List (Int × List Int)) (syncs : Int) (w : World) (h : Disk w S g size cells loose syncs) (c : Int) (B : Option Addr) (m d : Nat) (ys : List Int) (hr : Rd w .u8 B m ys) (hx : loose.length ≤ 1099511627776) :
    Calls Try.prog 133 #[.pointer (some ⟨g, 0, none⟩), .int .i64 c, .slice B m d] w (Written S g size cells loose syncs c ys w) := by
  have hm := h.mono (S2 := Plus S w w) (fun i => .inl) (Plus.lt h.lt (Nat.le_refl _))
  by_cases hc : 0 ≤ c ∧ c < cells.length
  · obtain ⟨C, rfl⟩ := Int.eq_ofNat_of_zero_le hc.1
    by_cases hl : (m : Int) ≤ size
    · exact (write_calls S g size cells loose syncs w h C (by omega) B m d ys hr hl hx).mono fun e w' ⟨h1, h2, h3⟩ => ⟨0, _, h1, h2, h3, .inl ⟨rfl, hc.1, hc.2, rfl⟩⟩
    · exact (write_long S g size cells loose syncs w h C (by omega) B m d (by omega) hr.room).mono fun e w' ⟨h1, h2⟩ => by subst h2; exact ⟨29, _, h1, hm, Chg.refl _ _, .inr ⟨rfl, rfl⟩⟩
  · exact (write_no S g size cells loose syncs w h c (by omega) B m d).mono fun e w' ⟨h1, h2⟩ => by subst h2; exact ⟨1, _, h1, hm, Chg.refl _ _, .inr ⟨rfl, rfl⟩⟩
set_option maxRecDepth 100000 in
theorem len_nil (w : World) : Calls Try.prog 124 #[.pointer none] w fun e w' => e = .returned (.tuple #[.int .i64 0, .int .i64 0]) ∧ w = w' := by
  go_enter Try.func124, Try.ntmps124
  go_wp2_with fail
  go_ret2
  exact ⟨rfl, rfl⟩
set_option maxRecDepth 100000 in
theorem crash_nil (w : World) : Calls Try.prog 141 #[.pointer none, .int .i64 1, .int .i64 1] w fun e w' => e = .returned (.int .i64 0) ∧ w = w' := by
  go_enter Try.func141, Try.ntmps141
  go_wp2_with fail
  go_ret
  exact ⟨rfl, rfl⟩
set_option maxRecDepth 100000 in
theorem read_nil (w : World) : Calls Try.prog 126 #[.pointer none, .int .i64 0] w fun e w' => e = .returned (.slice none 0 0) ∧ w = w' := by
  go_enter Try.func126, Try.ntmps126
  go_wp2_with fail
  go_ret
  exact ⟨rfl, rfl⟩
set_option maxRecDepth 100000 in
theorem write_nil (w : World) : Calls Try.prog 133 #[.pointer none, .int .i64 0, .slice none 0 0] w fun e w' => e = .returned (.int .i64 3) ∧ w = w' := by
  go_enter Try.func133, Try.ntmps133
  go_wp2_with fail
  go_ret
  exact ⟨rfl, rfl⟩
set_option maxRecDepth 100000 in
theorem sync_nil (w : World) : Calls Try.prog 134 #[.pointer none] w fun e w' => e = .returned (.int .i64 3) ∧ w = w' := by
  go_enter Try.func134, Try.ntmps134
  go_wp2_with fail
  go_ret
  exact ⟨rfl, rfl⟩
set_option maxRecDepth 100000 in
theorem spoil_nil (w : World) : Calls Try.prog 135 #[.pointer none, .int .i64 0, .int .i64 0, .int .u8 1] w fun e w' => e = .returned (.int .i64 3) ∧ w = w' := by
  go_enter Try.func135, Try.ntmps135
  go_wp2_with fail
  go_ret
  exact ⟨rfl, rfl⟩
end Go.Proofs.Ytipmkddcdnbihaa.Disk
