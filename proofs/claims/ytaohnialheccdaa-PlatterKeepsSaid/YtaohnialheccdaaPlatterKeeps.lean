import Derived.Test.YtaohnialheccdaaPlatAwake
import Derived.Test.YtaohnialheccdaaShape
import Derived.Deep.CutBlock
import Derived.Deep.QuietTactic
import Derived.BigQuiet
namespace Go.Proofs.Ytaohnialheccdaa.PlatterKeepsW
open Go.RowKit Base Step Vec Disk Plat
open DiskP (readC over puts put1 cutN torn crash)
open Shape (Sh Fs)

def actS : Sh := .st (.cons (.int .i64) (.cons (.int .i64) (.cons (.int .i64) (.cons (.int .u8) (.cons (.sl (.int .u8)) .nil)))))
abbrev Act := Int × Int × Int × Int × (Option Addr × Nat × Nat × List Int) × Unit
theorem actcells (x : Act) : actS.cells x = [.int .i64 x.1, .int .i64 x.2.1, .int .i64 x.2.2.1, .int .u8 x.2.2.2.1, .slice x.2.2.2.2.1.1 x.2.2.2.2.1.2.1 x.2.2.2.2.1.2.2.1] := rfl
/-- What an act bears: a cell, and bytes. -/
theorem act_at {w : World} {A : Option Addr} {n c : Nat} {l : List Act} (h : (Sh.sl actS).ok w (A, n, c, l)) {k : Nat} (hk : k < n) : ∃ (ad : Addr) (C : Int) (D : Option Addr) (dn dc : Nat) (dl : List Int), A = some ad ∧
    w.cell? ⟨(ad.add (k * 5)).block, (ad.add (k * 5)).off + 1, none⟩ = some (.int .i64 C) ∧ w.cell? ⟨(ad.add (k * 5)).block, (ad.add (k * 5)).off + 4, none⟩ = some (.slice D dn dc) ∧ Rd w .u8 D dn dl := by
  obtain ⟨h1, h2, h3, h4, h5⟩ : l.length = n ∧ n ≤ c ∧ c ≤ maxLen ∧ (A = none → c = 0) ∧ ∀ i (x : Act), l[i]? = some x → actS.ok w x ∧ ∃ ad, A = some ad ∧ ∀ j u, (actS.cells x)[j]? = some u → w.cell? (ad.add (i * actS.size + j)) = some u := h
  obtain ⟨x, hx⟩ : ∃ x, l[k]? = some x := ⟨_, List.getElem?_eq_getElem (by omega)⟩
  obtain ⟨hxo, ad, rfl, hxc⟩ := h5 k x hx
  rw [actcells] at hxc
  obtain ⟨kind, C, at_, bits, ⟨D, dn, dc, dl⟩, u⟩ := x
  have hrd : Rd w .u8 D dn dl := Shape.rd_of_ok (c := dc) hxo.2.2.2.2.1
  have x1 := hxc 1 _ rfl
  have x4 := hxc 4 _ rfl
  have hsz : actS.size = 5 := rfl
  rw [hsz] at x1 x4
  rw [← add_of_add] at x1 x4
  exact ⟨ad, C, D, dn, dc, dl, rfl, x1, x4, hrd⟩
theorem len_le {w : World} {A : Option Addr} {n c : Nat} {l : List Act} (h : (Sh.sl actS).ok w (A, n, c, l)) : n ≤ 9223372036854775807 := by
  have h1 := h.2.1
  have h2 := h.2.2.1
  simp only [maxLen] at h2
  exact Nat.le_trans h1 (by omega)
/-- Rows of bytes that have been read, off the blocks of O. -/
def Was (w : World) (O : Nat → Prop) (wr : World) (WA : Option Addr) (k wc : Nat) (xs : List (List Int)) : Prop :=
  ∃ wS wvs, Own wr wS 22 1 (.slice WA k wc) k wvs ∧ Each (BytesD wr wS) wvs xs ∧ Fresh w wS ∧ (∀ i, wS i → ¬ O i) ∧ ∀ i, wS i → i < wr.heap.size
theorem Was.ext {w wr wr' : World} {O : Nat → Prop} {WA : Option Addr} {k wc : Nat} {xs : List (List Int)} (h : Was w O wr WA k wc xs) (he : Ext wr wr') : Was w O wr' WA k wc xs := by
  obtain ⟨wS, wvs, h1, h2, h3, h4, h5⟩ := h
  exact ⟨wS, wvs, h1.extNew he, h2.imp fun _ _ k => k.ext he, h3, h4, fun i hi => he.lt (h5 i hi)⟩
theorem Was.chg {w wr wr' : World} {O O' S2 : Nat → Prop} {WA : Option Addr} {k wc : Nat} {xs : List (List Int)} (h : Was w O wr WA k wc xs) (hc : Chg S2 wr wr') (hs : ∀ i, S2 i → O i) (hO : ∀ i, O' i → O i ∨ wr.heap.size ≤ i) : Was w O' wr' WA k wc xs := by
  obtain ⟨wS, wvs, h1, h2, h3, h4, h5⟩ := h
  have hd : ∀ i, wS i → ¬ S2 i := fun i hi h => h4 i hi (hs i h)
  exact ⟨wS, wvs, h1.chg hc hd, h2.imp fun _ _ k => k.chg hc hd, h3, fun i hi ho => (hO i ho).elim (h4 i hi) fun h => by have := h5 i hi; omega, fun i hi => Nat.lt_of_lt_of_le (h5 i hi) hc.size⟩
theorem Was.at_ {w wr : World} {O : Nat → Prop} {WA : Option Addr} {k wc : Nat} {xs : List (List Int)} (h : Was w O wr WA k wc xs) {i : Nat} {x : List Int} (hx : xs[i]? = some x) : ∃ ad A n c, WA = some ad ∧ wr.cell? (ad.add i) = some (.slice A n c) ∧ Rd wr .u8 A n x := by
  obtain ⟨wS, wvs, h1, h2, h3, h4, h5⟩ := h
  obtain ⟨v, hv, hb⟩ := h2.at_ hx
  obtain ⟨A, n, c, rfl, _⟩ := id hb
  obtain ⟨ad, rfl, hc⟩ := own_cell h1 hv
  exact ⟨ad, A, n, c, rfl, hc, hb.rd⟩
theorem set_bools (T : List Bool) (K : Nat) (b : Bool) : ((T.map Value.bool).toArray.setIfInBounds K (.bool b)) = ((T.set K b).map Value.bool).toArray := by
  simp [List.map_set]
theorem Was.nil (w : World) (O : Nat → Prop) (wr : World) : Was w O wr none 0 0 [] := ⟨fun _ => False, [], Own.nil _ _ _ _, Each.nil _, fun _ h => h.elim, fun _ h => h.elim, fun _ h => h.elim⟩
/-- The disk, in whose blocks, and what is loose on it. -/
def J (w : World) (g : Nat) (cells : List (List Int)) (syncs : Int) (k : Nat) (wr : World) : Prop := ∃ S loose, Disk.Disk wr S g 100 cells loose syncs ∧ Fresh w S ∧ Ext w wr ∧ loose.length ≤ k
/-- The disk behind Sync, and what has been read. -/
def J2 (w : World) (g : Nat) (cells : List (List Int)) (WA : Option Addr) (k wc : Nat) (wr : World) : Prop := ∃ S, Disk.Disk wr S g 100 cells [] 1 ∧ Fresh w S ∧ Ext w wr ∧ Was w S wr WA k wc (cells.take k)
structure J3Is (w : World) (g : Nat) (cells : List (List Int)) (WA : Option Addr) (wc t : Nat) (k : Nat) (wr : World) (S : Nat → Prop) (loose : List (Int × List Int)) (T : List Bool) : Prop where
  d : Disk.Disk wr S g 100 cells loose 1
  f : Fresh w S
  e : Ext w wr
  was : Was w (And1 S t) wr WA 8 wc cells
  tb : wr.heap[t]? = some (.cells (T.map Value.bool).toArray 4 (0, 0))
  off : ¬ S t
  new : w.heap.size ≤ t
  tl : T.length = 8
  cl : cells.length = 8
  no : ∀ j : Nat, T[j]? = some false → ∀ q ∈ loose, q.1 ≠ (j : Int)
  len : loose.length ≤ k
def J3 (w : World) (g : Nat) (cells : List (List Int)) (WA : Option Addr) (wc t : Nat) (k : Nat) (wr : World) : Prop := ∃ S loose T, J3Is w g cells WA wc t k wr S loose T
/-- Behind the crash. -/
structure J4Is (w : World) (g : Nat) (cells cells' : List (List Int)) (WA : Option Addr) (wc t : Nat) (T : List Bool) (wr : World) (S : Nat → Prop) : Prop where
  d : Disk.Disk wr S g 100 cells' [] 1
  e : Ext w wr
  was : Was w (And1 S t) wr WA 8 wc cells
  tb : wr.heap[t]? = some (.cells (T.map Value.bool).toArray 4 (0, 0))
  tl : T.length = 8
  cl : cells.length = 8
  cl' : cells'.length = 8
  no : ∀ j : Nat, T[j]? = some false → cells'.getD j [] = cells.getD j []
def J4 (w : World) (g : Nat) (cells cells' : List (List Int)) (WA : Option Addr) (wc t : Nat) (T : List Bool) (wr : World) : Prop := ∃ S, J4Is w g cells cells' WA wc t T wr S
set_option maxRecDepth 100000 in
set_option maxHeartbeats 16000000 in
theorem walk (A : Option Addr) (n c : Nat) (l : List Act) (B : Option Addr) (m d : Nat) (ml : List Act) (keep bytes : Int) (w : World) (hl : (Sh.sl actS).ok w (A, n, c, l)) (hm : (Sh.sl actS).ok w (B, m, d, ml)) (hk : (Lit.int .i64 keep).wf = true) (hb : (Lit.int .i64 bytes).wf = true) :
    Calls Try.prog 12 #[.slice A n c, .slice B m d, .int .i64 keep, .int .i64 bytes] w fun e w' => e = .returned (.bool true) ∧ Ext w w' := by
  have HK := Lib.hid hk
  have HB := Lib.hid hb
  have HL := Lib.hid hl
  have HM := Lib.hid hm
  have hn := len_le hl
  have hmm := len_le hm
  clear hk hb hl hm
  go_enter Try.func12, Try.ntmps12
  go_wp2_with fail
  refine (awake_calls _).mono ?_
  rintro e w1 ⟨rfl, he1⟩
  go_wp2_with fail
  refine (new_calls 8 100 _ (by omega) (by omega) (by omega) (by omega)).mono ?_
  rintro e w2 ⟨g, rfl, he2, hd2⟩
  have hJ : J w g (List.replicate 8 []) 0 0 w2 := ⟨_, [], hd2, fun i hi => hi.elim (fun h => h.elim) fun h => Nat.le_trans he1.size h.1, he1.trans he2, Nat.le_refl _⟩
  clear hd2 he1 he2
  go_upto_block 0 with fail
  go_cut [] (fun wx => J w g (List.replicate 8 []) 0 30 wx)
  case first =>
    go_wp2_with fail
    go_loopw [11] (fun i wr => ∃ k : Nat, i = .int .i64 k ∧ k ≤ n ∧ k ≤ 30 ∧ J w g (List.replicate 8 []) 0 k wr) (fun i _ => 30 - (intOf i).toNat)
    case atStart => exact ⟨0, rfl, Nat.zero_le _, by omega, hJ⟩
    case round =>
      clear hJ
      obtain ⟨k, rfl, hkn, hk30, S, loose, hd, hf, he, hlo⟩ := hrel
      by_cases hlt : k < n ∧ k < 30
      · obtain ⟨hlt, hlt30⟩ := hlt
        obtain ⟨ad, C, D, dn, dc, dl, rfl, x1, x4, hrd⟩ := act_at HL.out hlt
        have d1 : ∀ W, Ext wr.drew W → W.cell? ⟨(ad.add (k * 5)).block, (ad.add (k * 5)).off + 1, none⟩ = some (.int .i64 C) := fun W hW => (he.trans (drew_ext hW)).cell_ x1
        have d4 : ∀ W, Ext wr.drew W → W.cell? ⟨(ad.add (k * 5)).block, (ad.add (k * 5)).off + 4, none⟩ = some (.slice D dn dc) := fun W hW => (he.trans (drew_ext hW)).cell_ x4
        go_wp2_with fail
        refine Lex.wp_region_tail 11 [] (by kernel_rfl) (by kernel_rfl) (by repeat (first | exact Lex.st_nil | refine Lex.st_cons (by first | exact Lex.nums_st | exact Lex.const_st | exact Lex.such_st | exact Lex.row_st | exact Lex.rowE_st | exact Lex.litR_st) ?_)) ?_; simp only [List.take_succ_cons, List.take_zero, List.drop_succ_cons, List.drop_zero]
        repeat (first | (refine Lex.lexT_skip (by rfl) ?_; simp only [Act.put, List.setIfInBounds_toArray, List.set_cons_zero, List.set_cons_succ]) | (refine Lex.lexT_still (by rfl) (by rfl) ?_; apply Exists.intro; refine ⟨fun W hW => ?_, ?_⟩; (have hE := hW.1; have hE2 := Base.Ext.trans (Base.Ext.drew (Base.Ext.refl _)) hW.1; clear hW; go_simp; try with_reducible rfl); simp only [Act.put, List.setIfInBounds_toArray, List.set_cons_zero, List.set_cons_succ]))
        refine Lex.lexT_nil (fun W hW => ?_)
        have hE := drew_ext hW.1
        clear hW d1 d4
        go_wp2_with fail
        refine (write_any S g 100 _ loose 0 _ (hd.ext hE) C D dn dc dl (hrd.ext (he.trans hE)) (by omega)).mono ?_
        rintro e w5 ⟨r, loose', rfl, hd5, hc5, hor⟩
        have hJ5 : J w g (List.replicate 8 []) 0 (k + 1) w5 := ⟨_, loose', hd5, Plus.fresh hf (he.trans hE).size, (he.trans hE).chg hc5 hf, by
          rcases hor with ⟨_, _, _, rfl⟩ | ⟨_, rfl⟩
          · simp; omega
          · omega⟩
        clear hd hd5 hc5 hor
        go_wp2_with fail
        go_roundw
        case rel => exact ⟨k + 1, by go_num, by omega, by omega, hJ5⟩
        case measure => simp [intOf]; omega
      · have hJ5 : J w g (List.replicate 8 []) 0 30 wr := ⟨S, loose, hd, hf, he, by omega⟩
        by_cases hkn2 : k < n
        · have hk50' : ¬ (k : Int) < 30 := by omega
          go_wp2_with fail
          go_meet
          exact hJ5
        · go_wp2_with fail
          go_meet
          exact hJ5
  case rest =>
    clear hJ
    obtain ⟨S, loose, hd, hf, he, hlo⟩ := hcut
    go_wp2_with fail
    refine (sync_calls S g 100 _ loose 0 _ hd (by omega) (by omega)).mono ?_
    rintro e w3 ⟨rfl, hd3, hc3⟩
    have hcl : (puts (List.replicate 8 []) loose).length = 8 := by rw [DiskP.puts_length]; rfl
    have hJ2 : J2 w g (puts (List.replicate 8 []) loose) none 0 0 w3 := ⟨S, hd3, hf, he.chg hc3 hf, Was.nil _ _ _⟩
    generalize puts (List.replicate 8 []) loose = cells at *
    clear hd hf he hlo hd3 hc3
    go_upto_block 2 with fail
    go_cut [12] (fun v wx => ∃ WA wc, v = .slice WA 8 wc ∧ J2 w g cells WA 8 wc wx)
    case first =>
      go_wp2_with fail
      go_loopw [12, 13] (fun v i wr => ∃ (k : Nat) (WA : Option Addr) (wc : Nat), v = .slice WA k wc ∧ i = .int .i64 k ∧ k ≤ 8 ∧ J2 w g cells WA k wc wr) (fun _ i _ => 8 - (intOf i).toNat)
      case atStart => exact ⟨0, none, 0, rfl, rfl, Nat.zero_le _, hJ2⟩
      case round =>
        clear hJ2
        obtain ⟨k, WA, wc, rfl, rfl, hk8, S, hd, hf, he, wS, wvs, hw1, hw2, hw3, hw4, hw5⟩ := hrel
        by_cases hlt : k < 8
        · have hx : cells[k]? = some (cells.getD k []) := by rw [List.getD_eq_getElem?_getD, List.getElem?_eq_getElem (by omega)]; rfl
          have HT : Hid (cells.take (k + 1) = cells.take k ++ [cells.getD k []]) := Lib.hid (by
            rw [List.take_succ_eq_append_getElem (by omega), List.getD_eq_getElem?_getD, List.getElem?_eq_getElem (by omega)]; rfl)
          have hbl := hd.len_le.2.2.2.2 _ (List.mem_of_getElem? hx)
          clear hx
          go_wp2_with fail
          refine (read_calls S g 100 cells [] 1 _ hd k (by omega) (by simp)).mono ?_
          rintro e w4 ⟨he4, A4, n4, c4, rfl, ho4, hwf4⟩
          have hrc : readC cells [] k = cells.getD k [] := rfl
          rw [hrc] at ho4 hwf4
          have hE := he4.trans (Ext.new w4 (.cells #[.slice A4 n4 c4] 22))
          have hown := hw1.extNew hE
          have hvs : ∀ (j : Nat) u, [Value.slice A4 n4 c4][j]? = some u → (w4.alloc (.cells #[.slice A4 n4 c4] 22)).cell? ⟨w4.heap.size, j, none⟩ = some u := fun j u hu => blk_cell (at_new w4 _) (Ext.refl _) (by simpa using hu)
          have hsz := hE.size
          have hb4 := ((Bytes.new ho4 hwf4).ext (Ext.new w4 (.cells #[.slice A4 n4 c4] 22)))
          clear hrc he4
          go_wp2_with (at_builtin; refine wpList_appE _ rfl _ _ _ rfl (fun i => wS i ∨ wr.heap.size ≤ i) 22 _ 1 24 Try.underlying92 info_b rfl (by decide) (by decide) (.slice WA k wc) k wvs rfl (hown.mono fun i _ hi => .inl hi) w4.heap.size 1 [.slice A4 n4 c4] rfl rfl hvs (by simp [Value.oneCell']) ?c2 (fun i hi => .inr (Nat.le_trans hsz hi)) ?_)
          case c2 => omega
          intro A5 c5 w5 ho5 hc5
          have hsz5 := hc5.size
          have ho6 : Own w5 (Plus wS wr w5) 22 1 (.slice A5 (k + 1) c5) (k + 1) (wvs ++ [.slice A4 n4 c4]) := ho5.mono fun i hlt hi => hi.imp id fun h => ⟨h, hlt⟩
          have hJ5 : J2 w g cells A5 (k + 1) c5 w5 := ⟨S, (hd.ext hE).chg hc5 (fun i hi ho => hw4 i (hw1.foot i ho) hi), hf, (he.trans hE).chg hc5 (fun i hi => hw3 i (hw1.foot i hi)), Plus wS wr w5, wvs ++ [.slice A4 n4 c4],
            ho6, by
              rw [HT.out]
              exact (hw2.imp fun _ _ b => ((b.ext hE).kind hc5 (own_kinds hown (by decide))).mono fun i _ => .inl).snoc ((hb4.kind hc5 (own_kinds hown (by decide))).mono fun i hlt hi => .inr ⟨hi, hlt⟩),
            Plus.fresh hw3 he.size, Plus.sep hw4 hd.lt, Plus.lt hw5 (by omega)⟩
          clear hd he hw1 hw2 hw3 hw4 hw5 hown hvs hb4 ho4 ho5 hc5 hE
          go_wp2_with fail
          go_roundw
          case rel => exact ⟨k + 1, _, _, rfl, by go_num, by omega, hJ5⟩
          case measure => simp [intOf]; omega
        · obtain rfl : k = 8 := by omega
          have hJ5 : J2 w g cells WA 8 wc wr := ⟨S, hd, hf, he, wS, wvs, hw1, hw2, hw3, hw4, hw5⟩
          go_wp2_with fail
          go_meet
          exact ⟨WA, wc, rfl, hJ5⟩
    case rest =>
      clear hJ2
      obtain ⟨WA, wcap, rfl, S, hd, hf, he, hwas⟩ := hcut
      rw [List.take_of_length_le (by omega)] at hwas
      have hmc : madeCells #[Value.bool false] 8 = ((List.replicate 8 false).map Value.bool).toArray := by kernel_rfl
      have hmk : ∀ W, (Instr.makeSlice 94 (.int .i64 8) (.int .i64 8)).run Try.prog W = .ok (.slice (some ⟨W.heap.size, 0, none⟩) 8 8) (W.alloc (.cells ((List.replicate 8 false).map Value.bool).toArray 4)) := fun W => by
        rw [← hmc]
        exact run_make_row' (P := Try.prog) 94 4 (.bool false) 1 Try.underlying94 (by kernel_rfl) rfl .i64 .i64 8 (by omega) (by omega) W
      have hnew := Ext.new wc (.cells ((List.replicate 8 false).map Value.bool).toArray 4)
      have hJ3 : J3 w g cells WA wcap wc.heap.size 0 (wc.alloc (.cells ((List.replicate 8 false).map Value.bool).toArray 4)) :=
        ⟨S, [], List.replicate 8 false, hd.ext hnew, hf, he.trans hnew, hwas.chg (S2 := fun _ => False) (Below.chg hnew) (fun _ h => h.elim) (fun i h => h.imp id fun h => by omega), at_new _ _, fun h => by have := hd.lt _ h; omega, he.size, rfl, hcl, by simp, by simp⟩
      clear hmc hnew hd hf he hwas
      go_upto_block 4 with fail
      generalize wc.heap.size = t at *
      go_cut [] (fun wx => J3 w g cells WA wcap t 30 wx)
      case first =>
        go_wp2_with fail
        go_loopw [15] (fun i wr => ∃ k : Nat, i = .int .i64 k ∧ k ≤ m ∧ k ≤ 30 ∧ J3 w g cells WA wcap t k wr) (fun i _ => 30 - (intOf i).toNat)
        case atStart => exact ⟨0, rfl, Nat.zero_le _, by omega, hJ3⟩
        case round =>
          clear hJ3 hmk
          obtain ⟨k, rfl, hkm, hk30, S, loose, T, h⟩ := hrel
          have hlo := h.len
          by_cases hlt : k < m ∧ k < 30
          · obtain ⟨hlt, hlt30⟩ := hlt
            obtain ⟨ad, C, D, dn, dc, dl, rfl, x1, x4, hrd⟩ := act_at HM.out hlt
            have d1 : ∀ W, Ext wr.drew W → W.cell? ⟨(ad.add (k * 5)).block, (ad.add (k * 5)).off + 1, none⟩ = some (.int .i64 C) := fun W hW => (h.e.trans (drew_ext hW)).cell_ x1
            have d4 : ∀ W, Ext wr.drew W → W.cell? ⟨(ad.add (k * 5)).block, (ad.add (k * 5)).off + 4, none⟩ = some (.slice D dn dc) := fun W hW => (h.e.trans (drew_ext hW)).cell_ x4
            go_wp2_with fail
            refine Lex.wp_region_tail 11 [] (by kernel_rfl) (by kernel_rfl) (by repeat (first | exact Lex.st_nil | refine Lex.st_cons (by first | exact Lex.nums_st | exact Lex.const_st | exact Lex.such_st | exact Lex.row_st | exact Lex.rowE_st | exact Lex.litR_st) ?_)) ?_; simp only [List.take_succ_cons, List.take_zero, List.drop_succ_cons, List.drop_zero]
            repeat (first | (refine Lex.lexT_skip (by rfl) ?_; simp only [Act.put, List.setIfInBounds_toArray, List.set_cons_zero, List.set_cons_succ]) | (refine Lex.lexT_still (by rfl) (by rfl) ?_; apply Exists.intro; refine ⟨fun W hW => ?_, ?_⟩; (have hE := hW.1; have hE2 := Base.Ext.trans (Base.Ext.drew (Base.Ext.refl _)) hW.1; clear hW; go_simp; try with_reducible rfl); simp only [Act.put, List.setIfInBounds_toArray, List.set_cons_zero, List.set_cons_succ]))
            refine Lex.lexT_nil (fun W hW => ?_)
            have hE := drew_ext hW.1
            clear hW d1 d4
            go_wp2_with fail
            refine (write_any S g 100 _ loose 1 _ (h.d.ext hE) C D dn dc dl (hrd.ext (h.e.trans hE)) (by omega)).mono ?_
            rintro e w5 ⟨r, loose', rfl, hd5, hc5, hor⟩
            have hx5 := (h.e.trans hE).chg hc5 h.f
            have hf5 : Fresh w (Plus S W w5) := Plus.fresh h.f (h.e.trans hE).size
            have ht5 := hc5.at_ (hE.at_ h.tb) h.off
            have htl := (Array.getElem?_eq_some_iff.1 (hE.at_ h.tb)).1
            have hoff5 : ¬ Plus S W w5 t := fun hi => hi.elim h.off fun h2 => by omega
            have hwas5 : Was w (And1 (Plus S W w5) t) w5 WA 8 wcap cells := (h.was.ext hE).chg hc5 (fun i hi => .inl hi) (fun i hi => hi.elim (fun h1 => h1.elim (fun h2 => .inl (.inl h2)) fun h2 => .inr h2.1) fun h1 => .inl (.inr h1))
            have z1 := hx5.cell_ x1
            rcases hor with ⟨rfl, hC0, hC1, rfl⟩ | ⟨hr0, rfl⟩
            · obtain ⟨K, rfl⟩ := Int.eq_ofNat_of_zero_le hC0
              have hK : K < 8 := by have := h.cl; omega
              have hT : K < T.length := by rw [h.tl]; exact hK
              have c5 : w5.cell? ⟨t, K, none⟩ = some (.bool T[K]) := blk_cell ht5 (Ext.refl _) (by simp)
              have f5 := blk_free ht5 (Ext.refl _) K
              have hc6 : Chg (fun i => i = t) w5 (w5.setCell ⟨t, K, none⟩ (.bool true)) := Chg.setCell (S := fun i => i = t) (Chg.refl _ _) (p := ⟨t, K, none⟩) rfl _
              have hJ5 : J3 w g cells WA wcap t (k + 1) (w5.setCell ⟨t, K, none⟩ (.bool true)) :=
                ⟨Plus S W w5, _, T.set K true, hd5.chg hc6 (fun i hi e => hoff5 (e ▸ hi)), hf5, hx5.chg hc6 (fun i hi => by rw [hi]; exact h.new), hwas5.chg hc6 (fun i hi => .inr hi) (fun i hi => .inl hi),
                  by rw [← set_bools]; exact set_blk ht5 _, hoff5, h.new, by simp [h.tl], h.cl, fun j hj q hq => by
                    by_cases hjK : K = j
                    · subst hjK
                      rw [List.getElem?_set_self hT] at hj
                      cases hj
                    · rw [List.getElem?_set_ne hjK] at hj
                      rcases List.mem_append.1 hq with h1 | h1
                      · exact h.no j hj q h1
                      · rw [List.mem_singleton.1 h1]
                        intro e
                        have e2 : (K : Int) = (j : Int) := e
                        omega, by simp; omega⟩
              have hK8 : (K : Int) < 8 := by omega
              clear h hd5 hc5 hx5 hf5 ht5 hoff5 hwas5 hc6 x1 x4 hE hC0 hC1
              go_wp2_with fail
              go_roundw
              case rel => exact ⟨k + 1, by go_num, by omega, by omega, hJ5⟩
              case measure => simp [intOf]; omega
            · have hJ5 : J3 w g cells WA wcap t (k + 1) w5 := ⟨_, _, T, hd5, hf5, hx5, hwas5, ht5, hoff5, h.new, h.tl, h.cl, h.no, by omega⟩
              clear h hd5 hc5 hx5 hf5 ht5 hoff5 hwas5 x1 x4 hE
              go_wp2_with fail
              go_roundw
              case rel => exact ⟨k + 1, by go_num, by omega, by omega, hJ5⟩
              case measure => simp [intOf]; omega
          · have hJ5 : J3 w g cells WA wcap t 30 wr := ⟨S, loose, T, h.d, h.f, h.e, h.was, h.tb, h.off, h.new, h.tl, h.cl, h.no, by omega⟩
            clear h
            by_cases hkn2 : k < m
            · have hk50' : ¬ (k : Int) < 30 := by omega
              go_wp2_with fail
              go_meet
              exact hJ5
            · go_wp2_with fail
              go_meet
              exact hJ5
      case rest =>
        clear hJ3
        obtain ⟨S, loose, T, h⟩ := hcut
        go_wp2_with fail
        refine (crash_calls S g 100 cells loose 1 _ h.d keep bytes HK.out HB.out (by have := h.len; omega)).mono ?_
        rintro e w7 ⟨rfl, hd7, hc7⟩
        have htl := (Array.getElem?_eq_some_iff.1 h.tb).1
        have hJ4 : J4 w g cells (crash cells loose keep bytes) WA wcap t T w7 := ⟨Plus S wc w7, hd7, h.e.chg hc7 h.f, h.was.chg hc7 (fun i hi => .inl hi) (fun i hi => hi.elim (fun h1 => h1.elim (fun h2 => .inl (.inl h2)) fun h2 => .inr h2.1) fun h1 => .inl (.inr h1)),
          hc7.at_ h.tb h.off, h.tl, h.cl, by rw [DiskP.crash_length]; exact h.cl, fun j hj => DiskP.crash_other (by have := (List.getElem?_eq_some_iff.1 hj).1; have := h.tl; have := h.cl; omega) (fun q hq => (h.d.inr q hq).1) (h.no j hj)⟩
        generalize crash cells loose keep bytes = cells' at *
        generalize (loose.length : Int) - cutN keep loose.length = lost
        clear h hd7 hc7 htl
        go_wp2_with fail
        go_loopw [16] (fun i wr => ∃ k : Nat, i = .int .i64 k ∧ k ≤ 8 ∧ J4 w g cells cells' WA wcap t T wr) (fun i _ => 8 - (intOf i).toNat)
        case atStart => exact ⟨0, rfl, Nat.zero_le _, hJ4⟩
        case round =>
          clear hJ4 hmk
          obtain ⟨k, rfl, hk8, S, h⟩ := hrel
          by_cases hlt : k < 8
          · have hT : k < T.length := by rw [h.tl]; exact hlt
            have htb : T[k]? = some T[k] := List.getElem?_eq_getElem hT
            have c0 : ∀ W, Ext wr.drew W → W.cell? ⟨t, k, none⟩ = some (.bool T[k]) := fun W hW => blk_cell h.tb (drew_ext hW) (by simp)
            obtain ⟨xs, hxs⟩ : ∃ xs, cells[k]? = some xs := ⟨_, List.getElem?_eq_getElem (by rw [h.cl]; exact hlt)⟩
            obtain ⟨ad, D, dn, dc, rfl, x0, hrd⟩ := h.was.at_ hxs
            have c1 : ∀ W, Ext wr.drew W → W.cell? (ad.add k) = some (.slice D dn dc) := fun W hW => (drew_ext hW).cell_ x0
            have hlt8 : (k : Int) < 8 := by omega
            have HJ4 : Hid (∀ W, Ext wr W → J4 w g cells cells' (some ad) wcap t T W) := Lib.hid fun W hW => ⟨S, h.d.ext hW, h.e.trans hW, h.was.ext hW, hW.at_ h.tb, h.tl, h.cl, h.cl', h.no⟩
            generalize hb : T[k] = b at *
            cases b with
            | true =>
              have k0 : (0 : Int) ≤ k := by omega
              have c2 := blk_cell h.tb (Ext.refl _) (i := k) (v := .bool true) (by simp [htb])
              clear h hxs htb hb c0 c1
              go_wp2_with fail
              go_quiet (fail)
              go_wp2_with fail
              go_roundw
              case rel => exact ⟨k + 1, by go_num, by omega, HJ4.out _ (by first | exact (Ext.refl _).drewN _ | exact (Ext.refl _).drew)⟩
              case measure => simp [intOf]; omega
            | false =>
              have hno := h.no k htb
              have HR := Lib.hid fun W (hE : Ext wr W) => read_calls S g 100 cells' [] 1 W (h.d.ext hE) k (by rw [h.cl']; exact hlt) (by simp)
              have HQ : Hid (readC cells' [] k = xs) := Lib.hid (by
                show cells'.getD k [] = _
                rw [hno, List.getD_eq_getElem?_getD, hxs]; rfl)
              rw [HQ.out] at HR
              clear h hno hxs htb hb
              go_wp2_with fail
              refine Lex.wp_region_ext [(8, .rowE wr 5 .u8 xs)] (by kernel_rfl) (by kernel_rfl) (by repeat (first | exact Lex.st_nil | refine Lex.st_cons (by first | exact Lex.nums_st | exact Lex.const_st | exact Lex.such_st | exact Lex.row_st | exact Lex.rowE_st | exact Lex.litR_st) ?_)) ?_
              repeat (first | (refine Lex.lex_skip (by rfl) ?_; simp only [Act.put, List.setIfInBounds_toArray, List.set_cons_zero, List.set_cons_succ]) | (refine Lex.lex_still (by rfl) (by rfl) ?_; apply Exists.intro; refine ⟨fun W hW => ?_, ?_⟩; (have hE := hW.1; have hE2 := Base.Ext.trans (Base.Ext.drew (Base.Ext.refl _)) hW.1; clear hW; go_simp; try with_reducible rfl); simp only [Act.put, List.setIfInBounds_toArray, List.set_cons_zero, List.set_cons_succ]))
              refine Lex.lex_loose (by rfl) (by rfl) (fun W hW => ?_) ?_
              · have hE := drew_ext hW.1
                go_simp
                refine (HR.out _ hE).mono ?_
                rintro e w10 ⟨he10, A10, n10, c10, rfl, ho10, hwf10⟩
                exact ⟨_, rfl, ⟨A10, n10, c10, rfl, ho10.cap.1, (Bytes.new ho10 hwf10).len⟩, he10, Lex.rowE_mk (ho10.mono fun i _ hi => Nat.le_trans hE.size hi)⟩
              rintro v ⟨A10, n10, c10, rfl, -, hl10⟩
              simp only [Act.put, List.setIfInBounds_toArray, List.set_cons_zero, List.set_cons_succ]
              refine Lex.lex_still (by rfl) (by rfl) ?_; apply Exists.intro; refine ⟨fun W hW => ?_, ?_⟩
              · have q := run_string (P := Try.prog) 22 9 5 c10 Try.underlying22 Try.underlying5 Try.underlying9 ((Lex.upd_here (hW.2 8 (by kernel_rfl)) _ _ _ rfl).rd hrd.wf)
                go_simp
                try with_reducible rfl
              simp only [Act.put, List.setIfInBounds_toArray, List.set_cons_zero, List.set_cons_succ]
              repeat (first | (refine Lex.lex_skip (by rfl) ?_; simp only [Act.put, List.setIfInBounds_toArray, List.set_cons_zero, List.set_cons_succ]) | (refine Lex.lex_still (by rfl) (by rfl) ?_; apply Exists.intro; refine ⟨fun W hW => ?_, ?_⟩; (have hE := hW.1; have hE2 := Base.Ext.trans (Base.Ext.drew (Base.Ext.refl _)) hW.1; clear hW; go_simp; try with_reducible rfl); simp only [Act.put, List.setIfInBounds_toArray, List.set_cons_zero, List.set_cons_succ]))
              refine Lex.lex_still (by rfl) (by rfl) ?_; apply Exists.intro; refine ⟨fun W hW => ?_, ?_⟩
              · have q := run_string (P := Try.prog) 22 9 5 dc Try.underlying22 Try.underlying5 Try.underlying9 (hrd.ext (drew_ext hW.1))
                go_simp
                try with_reducible rfl
              simp only [Act.put, List.setIfInBounds_toArray, List.set_cons_zero, List.set_cons_succ]
              repeat (first | (refine Lex.lex_skip (by rfl) ?_; simp only [Act.put, List.setIfInBounds_toArray, List.set_cons_zero, List.set_cons_succ]) | (refine Lex.lex_still (by rfl) (by rfl) ?_; apply Exists.intro; refine ⟨fun W hW => ?_, ?_⟩; (have hE := hW.1; have hE2 := Base.Ext.trans (Base.Ext.drew (Base.Ext.refl _)) hW.1; clear hW; go_simp; try with_reducible rfl); simp only [Act.put, List.setIfInBounds_toArray, List.set_cons_zero, List.set_cons_succ]))
              refine Lex.lex_nil (fun W hW => ?_)
              have hJ5 := HJ4.out _ (drew_ext hW.1)
              clear hW c0 c1 x0
              go_wp2_with fail
              go_roundw
              case rel => exact ⟨k + 1, by go_num, by omega, hJ5⟩
              case measure => simp [intOf]; omega
          · obtain rfl : k = 8 := by omega
            go_wp2_with fail
            refine (loose_calls S g 100 _ _ _ _ h.d).mono ?_
            rintro e w8 ⟨rfl, he8⟩
            have HX := Lib.hid (h.e.trans he8)
            clear h he8
            go_wp2_with fail
            refine (awake_calls _).mono ?_
            rintro e w9 ⟨rfl, he9⟩
            go_wp2_with fail
            go_ret
            exact ⟨rfl, HX.out.trans he9⟩
end Go.Proofs.Ytaohnialheccdaa.PlatterKeepsW
