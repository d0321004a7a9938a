/- The document's reading of a line, walked. -/
import Derived.Test.YtfhgjopoohfhjaaScriptS
namespace Go.Proofs.Ytfhgjopoohfhjaa.Script
open Go.RowKit Base Step Vec
open ScriptP (L nm nameI kindOf Kind form formI digits digitsI numP numR chr cut St words putR parseR)
/-- A result yet unwritten, and a world reached. -/
def PreR (w wr : World) (gr : Nat) : Prop := wr.heap[gr]? = some (.cells (cellsV (St.of 0) none 0 0) 43 (0, 0)) ∧ Ext w wr
theorem PreR.ext_ {w wr wr' : World} {gr : Nat} (h : PreR w wr gr) (he : Ext wr wr') : PreR w wr' gr := ⟨he.at_ h.1, h.2.trans he⟩
theorem words_len : ∀ (l : L), ∀ x ∈ words l, x.length ≤ l.length
  | [], x, h => by simp [words] at h; subst h; simp
  | c :: cs, x, h => by
    have ih := words_len cs
    unfold words at h
    split at h
    · rcases List.mem_cons.1 h with h | h
      · subst h; simp
      · have := ih x h; simp only [List.length_cons]; omega
    · cases hw : words cs with
      | nil => exact absurd hw (words_ne cs)
      | cons y ys =>
        rw [hw] at h ih
        simp only at h
        rcases List.mem_cons.1 h with h | h
        · subst h
          have := ih y List.mem_cons_self
          simp only [List.length_cons]; omega
        · have := ih x (List.mem_cons_of_mem _ h)
          simp only [List.length_cons]; omega
theorem words_cnt : ∀ (l : L), (words l).length ≤ l.length + 1
  | [] => by simp [words]
  | c :: cs => by
    have ih := words_cnt cs
    unfold words
    split
    · simp only [List.length_cons]; omega
    · cases hw : words cs with
      | nil => simp
      | cons y ys =>
        rw [hw] at ih
        simp only [List.length_cons] at ih ⊢
        omega
theorem add1 (g j : Nat) : (⟨g, 1, none⟩ : Addr).add j = ⟨g, 1 + j, none⟩ := by unfold Addr.add; split <;> simp_all
theorem len1 {ns : List Nat} (h : ns.length = 1) : ∃ a, ns = [a] := List.length_eq_one_iff.1 h
theorem len2 {ns : List Nat} (h : ns.length = 2) : ∃ a b, ns = [a, b] := by
  match ns, h with
  | [a, b], _ => exact ⟨a, b, rfl⟩
theorem len3 {ns : List Nat} (h : ns.length = 3) : ∃ a b c, ns = [a, b, c] := by
  match ns, h with
  | [a, b, c], _ => exact ⟨a, b, c, rfl⟩
theorem len4 {ns : List Nat} (h : ns.length = 4) : ∃ a b c d, ns = [a, b, c, d] := by
  match ns, h with
  | [a, b, c, d], _ => exact ⟨a, b, c, d, rfl⟩
theorem PreR.put {w wr w6 : World} {gr : Nat} {c : Array Value} (h : PreR w wr gr) (hc : Chg (fun i => i = wr.heap.size) (wr.alloc (.cells c 43)) w6) (hgr : gr < wr.heap.size) : PreR w w6 gr :=
  ⟨hc.at_ ((Ext.new wr _).at_ h.1) (by omega), (h.2.alloc _).chg hc fun i hi => by rw [hi]; exact h.2.size⟩
theorem put_cell {wr w6 : World} {c : Array Value} {g j : Nat} {v : Value} (h : wr.cell? ⟨g, j, none⟩ = some v) (hc : Chg (fun i => i = wr.heap.size) (wr.alloc (.cells c 43)) w6) : w6.cell? ⟨g, j, none⟩ = some v := by
  have hg : g < wr.heap.size := World.block_lt_of_cell? wr _ h
  exact hc.cell ((Ext.new wr _).cell_ h) (by show ¬ g = wr.heap.size; omega)
theorem PreR.put1 {w w6 : World} {gr g : Nat} (h : PreR w w6 gr) (i : Nat) (v : Value) (hgr : gr < g) (hw : w.heap.size ≤ g) : PreR w (w6.setCell ⟨g, i, none⟩ v) gr :=
  ⟨(chg1 w6 g i v).at_ h.1 (by omega), h.2.chg (chg1 w6 g i v) fun j hj => by rw [hj]; exact hw⟩
set_option maxRecDepth 100000 in
set_option maxHeartbeats 40000000 in
theorem rparse_calls (t : ByteArray) (w : World) (ht : t.size ≤ 1000000) :
    Calls Try.prog 45 #[.string t] w fun e w' => ReadPost w e w' (parseR t.data.toList) := by
  obtain ⟨l, hl⟩ : ∃ l, t.data.toList = l := ⟨_, rfl⟩
  have hsz : l.length = t.size := by rw [← hl]; simp
  have HWD := words_calls t
  have HPUT := Lib.hid fun W => put_calls t W ht
  rw [hl] at HWD ⊢
  rw [hl] at HPUT
  have HL := Lib.hid hl
  have HSZ := Lib.hid hsz
  have HP1 : Hid (PreR w (w.alloc (.cells (cellsV (St.of 0) none 0 0) 43)) w.heap.size) := Lib.hid ⟨at_new _ _, Ext.new _ _⟩
  have HWD := Lib.hid fun W => HWD W ht
  clear hl hsz
  go_enter Try.func45, Try.ntmps45
  go_wp2_with fail
  go_loop [4] (fun i => ∃ j : Nat, i = .int .i64 j ∧ j ≤ t.size ∧ Hid (∀ c ∈ l.take j, c ≠ 10)) (fun i => t.size - (intOf i).toNat)
  case atStart => exact ⟨0, rfl, Nat.zero_le _, Lib.hid (by simp)⟩
  case round =>
    obtain ⟨j, rfl, hj, HN⟩ := hrel
    by_cases hlt : j < t.size
    · have hd : l.drop j = t[j] :: l.drop (j + 1) := by rw [← HL.out]; exact getD_byte hlt
      have htk : l.take (j + 1) = l.take j ++ [t[j]] := by rw [← HL.out]; exact take_byte hlt
      by_cases hb : t[j] = 10
      · have HF : Hid (parseR l = none) := Lib.hid (by
          unfold parseR
          rw [if_pos]
          have : t[j] ∈ l.drop j := by rw [hd]; exact List.mem_cons_self
          rw [hb] at this
          exact List.mem_of_mem_drop this)
        have hb' : ((t[j].toNat : Int) == 10) = true := by rw [hb]; rfl
        clear hd htk
        go_wp2_with (refine RowSt.wpList_put 43 _ _ rfl rfl rfl w.heap.size (cellsV (St.of 0) none 0 0) rfl rfl 43 _ HP1.out.1 (by kernel_rfl) rfl (cells_one _ _ _ _) ?_; intro w8 hb8 hc8)
        refine bodyPost_ret (v := .tuple #[.agg (cellsV (St.of 0) none 0 0), .bool false]) (RowSt.results_cell_tmp (p := 2) (q := 3) rfl _ _ w.heap.size 43 (cellsV (St.of 0) none 0 0) (0, 0) _ rfl hb8 Try.underlying43 rfl (by kernel_rfl)) rfl ?_
        refine ⟨HP1.out.2.chg hc8 fun i hi => by rw [hi]; exact Nat.le_refl _, ?_⟩
        rw [HF.out]
      · have hb' : ((t[j].toNat : Int) == 10) = false := by
          rw [beq_eq_false_iff_ne]
          intro h
          apply hb
          apply UInt8.toNat_inj.1
          have : (10 : UInt8).toNat = 10 := rfl
          omega
        have HN2 : Hid (∀ c ∈ l.take (j + 1), c ≠ 10) := Lib.hid (by
          intro c hc
          rw [htk, List.mem_append] at hc
          rcases hc with hc | hc
          · exact HN.out c hc
          · rw [List.mem_singleton] at hc
            rw [hc]; exact hb)
        clear hd htk HN
        go_wp2_with fail
        go_round
        case rel => exact ⟨j + 1, by go_num, by omega, HN2⟩
        case measure => (simp [intOf]; try omega)
    · obtain rfl : j = t.size := by omega
      have HN10 : Hid (10 ∉ l) := Lib.hid fun h => by
        have := HN.out
        rw [List.take_of_length_le (by rw [HSZ.out]; exact Nat.le_refl _)] at this
        exact this 10 h rfl
      clear HN
      go_wp2_with fail
      refine (HWD.out _).mono ?_
      rintro e w2 ⟨A, c, rfl, ho, he⟩
      have HP2 := Lib.hid (HP1.out.ext_ he)
      have hgr : w.heap.size < w2.heap.size := (Array.getElem?_eq_some_iff.1 HP2.out.1).1
      clear HP1 he
      have hwn : 0 < (words l).length := List.length_pos_iff.2 (words_ne l)
      obtain ⟨g, rfl, hc⟩ := own_at ho hwn
      have HC : Hid (∀ j x, (words l)[j]? = some x → w2.cell? ⟨g, j, none⟩ = some (.string (S x))) := Lib.hid fun j x hx => hc j _ (strs_at hx)
      have hcap := ho.cap.1
      have hown : Hid (New _ w2 9 1 (some ⟨g, 0, none⟩) (words l).length c (strs (words l))) := Lib.hid ho
      obtain ⟨ws, hws⟩ : ∃ ws, words l = ws := ⟨_, rfl⟩
      obtain ⟨x0, hx0⟩ : ∃ x, ws[0]? = some x := ⟨_, List.getElem?_eq_getElem (by rw [← hws]; exact hwn)⟩
      have hg0 : ws.getD 0 [] = x0 := by simp [List.getD_eq_getElem?_getD, hx0]
      have HPAR : Hid (parseR l = if kindOf x0 = 0 then none else if kindOf x0 = 1 then putR l else if kindOf x0 = 2 ∨ kindOf x0 = 3 ∨ kindOf x0 = 5 then (if ws.length ≠ 2 then none else some { St.of (kindOf x0) with name := ws.getD 1 [] }) else match ScriptP.nums ws.tail with
        | none => none
        | some n => if n.length ≠ ScriptP.many (kindOf x0) then none else ScriptP.fill (kindOf x0) n) := Lib.hid (by
          unfold parseR
          rw [if_neg HN10.out, hws, hg0]
          rfl)
      rw [hws] at HC hcap hwn
      have hx0c := HC.out 0 x0 hx0
      clear ho hc hown hx0 hg0
      obtain ⟨n, hn⟩ : ∃ n, ws.length = n := ⟨_, rfl⟩
      rw [hws, hn]
      rw [hn] at hcap hwn
      go_wp2_with fail
      go_loopw [6, 7] (fun kd k wr => ∃ (j m : Nat), k = .int .i64 j ∧ kd = .int .i64 m ∧ 1 ≤ j ∧ j ≤ 18 ∧ Hid ((m = 0 ∧ ∀ i, 1 ≤ i → i < j → nm i ≠ x0) ∨ (1 ≤ m ∧ m < j ∧ nm m = x0)) ∧ Hid (Ext w2 wr)) (fun _ k _ => 18 - (intOf k).toNat)
      case atStart => exact ⟨1, 0, rfl, rfl, by omega, by omega, Lib.hid (.inl ⟨rfl, fun i h1 h2 => by omega⟩), Lib.hid (Ext.refl _)⟩
      case round =>
        obtain ⟨j, m, rfl, rfl, hj1, hj2, HK, HE⟩ := hrel
        by_cases hlt : j ≤ 17
        · have hnmi : nameI (j : Int) = nm j := by unfold nameI; rw [if_pos ⟨by omega, by omega⟩]; rfl
          have hna := rname_calls (j : Int)
          rw [hnmi] at hna
          have HNA := Lib.hid hna
          clear hna hnmi
          generalize hnm : nm j = v at *
          have HV := Lib.hid hnm
          have e0 : ∀ W', Ext wr W' → W'.cell? ⟨g, 0, none⟩ = some (.string (S x0)) := fun W' hW => hW.cell_ (HE.out.cell_ hx0c)
          clear hnm hx0c
          go_wp2_with fail
          refine Lex.wp_region_u [0, 1, 2, 3, 4, 5] [] [(1, .const (.string (S v)))] (by kernel_rfl) (by kernel_rfl) (by repeat (first | exact Lex.st_nil | refine Lex.st_cons (by first | exact Lex.nums_st | exact Lex.const_st | exact Lex.such_st | exact Lex.row_st | exact Lex.rowE_st | exact Lex.litR_st | assumption) ?_)) ?_; simp only [Lex.pick, List.getElem?_cons_succ, List.getElem?_cons_zero, List.map_nil]
          repeat (first | (refine Lex.lexU_skip (by rfl) ?_; simp only [Act.put, List.setIfInBounds_toArray, List.set_cons_zero, List.set_cons_succ]) | (refine Lex.lexU_still (by rfl) (by rfl) (by first | exact Base.Ext.refl | exact Lex.Fill.refl) ?_; apply Exists.intro; refine ⟨fun W hW => ?_, ?_⟩; (have hE := Lex.ext_of_cls hW.1; have hE2 := Lex.ext_drew hE; clear hW; go_simp; try with_reducible rfl); simp only [Act.put, List.setIfInBounds_toArray, List.set_cons_zero, List.set_cons_succ]))
          refine Lex.lexU_loose (by rfl) (by rfl) (fun W hW => ?_) ?_
          · have hE := Lex.ext_drew (Lex.ext_of_cls hW.1)
            clear hW
            go_simp
            refine (HNA.out _).mono ?_
            rintro e w8 ⟨rfl, he8⟩
            exact ⟨_, rfl, rfl, he8, trivial⟩
          rintro v2 rfl
          simp only [Act.put, List.setIfInBounds_toArray, List.set_cons_zero, List.set_cons_succ]
          repeat (first | (refine Lex.lexU_skip (by rfl) ?_; simp only [Act.put, List.setIfInBounds_toArray, List.set_cons_zero, List.set_cons_succ]) | (refine Lex.lexU_still (by rfl) (by rfl) (by first | exact Base.Ext.refl | exact Lex.Fill.refl) ?_; apply Exists.intro; refine ⟨fun W hW => ?_, ?_⟩; (have hE := Lex.ext_of_cls hW.1; have hE2 := Lex.ext_drew hE; clear hW; go_simp; try with_reducible rfl); simp only [Act.put, List.setIfInBounds_toArray, List.set_cons_zero, List.set_cons_succ]))
          refine Lex.lexU_nil (fun W hW => ?_)
          have HE2 := Lib.hid (HE.out.trans (Lex.ext_drew (Lex.ext_of_cls hW.1)))
          clear hW e0
          refine Lex.onlyN_intro ?_
          go_wp2_with fail
          · have hv : (v == x0) = true := by assumption
            rw [beq_iff_eq] at hv
            have HK2 : Hid ((j = 0 ∧ ∀ i, 1 ≤ i → i < j + 1 → nm i ≠ x0) ∨ (1 ≤ j ∧ j < j + 1 ∧ nm j = x0)) := Lib.hid (.inr ⟨hj1, by omega, by rw [HV.out, hv]⟩)
            go_roundw
            case rel => exact ⟨j + 1, j, by go_num, rfl, by omega, by omega, HK2, HE2⟩
            case measure => (simp [intOf]; try omega)
          · have hv : (v == x0) = false := by assumption
            rw [beq_eq_false_iff_ne] at hv
            have HK2 : Hid ((m = 0 ∧ ∀ i, 1 ≤ i → i < j + 1 → nm i ≠ x0) ∨ (1 ≤ m ∧ m < j + 1 ∧ nm m = x0)) := Lib.hid (by
              rcases HK.out with ⟨h1, h2⟩ | ⟨h1, h2, h3⟩
              · refine .inl ⟨h1, fun i h3 h4 => ?_⟩
                rcases Nat.lt_or_ge i j with h5 | h5
                · exact h2 i h3 h5
                · obtain rfl : i = j := by omega
                  rw [HV.out]; exact hv
              · exact .inr ⟨h1, by omega, h3⟩)
            go_roundw
            case rel => exact ⟨j + 1, m, by go_num, rfl, by omega, by omega, HK2, HE2⟩
            case measure => (simp [intOf]; try omega)
        · obtain rfl : j = 18 := by omega
          have hk : m = kindOf x0 := ScriptP.kind_unique (by
            rcases HK.out with ⟨h1, h2⟩ | ⟨h1, h2, h3⟩
            · exact .inr ⟨h1, fun i h3 h4 => h2 i h3 (by omega)⟩
            · exact .inl ⟨h1, by omega, h3⟩)
          have hm17 : m ≤ 17 := by rw [hk]; exact ScriptP.kindOf_le x0
          rw [← hk] at HPAR
          have HPR := Lib.hid (HP2.out.ext_ HE.out)
          have hgr2 : w.heap.size < wr.heap.size := (Array.getElem?_eq_some_iff.1 HPR.out.1).1
          clear HK hk HP2 hgr HWD hx0c
          have HCR : Hid (∀ j x, ws[j]? = some x → wr.cell? ⟨g, j, none⟩ = some (.string (S x))) := Lib.hid fun j x hx => HE.out.cell_ (HC.out j x hx)
          clear HC HE
          by_cases hm0 : m = 0
          · subst hm0
            have HF : Hid (parseR l = none) := Lib.hid (by rw [HPAR.out, if_pos rfl])
            go_wp2_with (refine RowSt.wpList_put 43 _ _ rfl rfl rfl w.heap.size (cellsV (St.of 0) none 0 0) rfl rfl 43 _ HPR.out.1 (by kernel_rfl) rfl (cells_one _ _ _ _) ?_; intro w8 hb8 hc8)
            refine bodyPost_ret (v := .tuple #[.agg (cellsV (St.of 0) none 0 0), .bool false]) (RowSt.results_cell_tmp (p := 2) (q := 3) rfl _ _ w.heap.size 43 (cellsV (St.of 0) none 0 0) (0, 0) _ rfl hb8 Try.underlying43 rfl (by kernel_rfl)) rfl ?_
            refine ⟨HPR.out.2.chg hc8 fun i hi => by rw [hi]; exact Nat.le_refl _, ?_⟩
            rw [HF.out]
          by_cases hm1 : m = 1
          · subst hm1
            have HF : Hid (parseR l = putR l) := Lib.hid (by rw [HPAR.out, if_neg (by decide), if_pos rfl])
            go_wp2_with fail
            refine (HPUT.out _).mono ?_
            rintro e w5 ⟨he5, hp5⟩
            have hpr5 := HPR.out.ext_ he5
            cases hpo : putR l with
            | none =>
              rw [hpo] at hp5
              obtain rfl := hp5
              go_wp2_with (refine RowSt.wpList_put 43 _ _ rfl rfl rfl w.heap.size (cellsV (St.of 0) none 0 0) rfl rfl 43 _ hpr5.1 (by kernel_rfl) rfl (cells_one _ _ _ _) ?_; intro w8 hb8 hc8)
              refine bodyPost_ret (v := .tuple #[.agg (cellsV (St.of 0) none 0 0), .bool false]) (RowSt.results_cell_tmp (p := 2) (q := 3) rfl _ _ w.heap.size 43 (cellsV (St.of 0) none 0 0) (0, 0) _ rfl hb8 Try.underlying43 rfl (by kernel_rfl)) rfl ?_
              refine ⟨hpr5.2.chg hc8 fun i hi => by rw [hi]; exact Nat.le_refl _, ?_⟩
              rw [HF.out, hpo]
            | some y =>
              rw [hpo] at hp5
              obtain ⟨D5, n5, c5, rfl, hd5, hn5⟩ := hp5
              go_wp2_with (refine RowSt.wpList_put 43 _ _ rfl rfl rfl w.heap.size (cellsV y D5 n5 c5) rfl rfl 43 _ hpr5.1 (by kernel_rfl) rfl (cells_one _ _ _ _) ?_; intro w8 hb8 hc8)
              refine bodyPost_ret (v := .tuple #[.agg (cellsV y D5 n5 c5), .bool true]) (RowSt.results_cell_tmp (p := 2) (q := 3) rfl _ _ w.heap.size 43 (cellsV y D5 n5 c5) (0, 0) _ rfl hb8 Try.underlying43 rfl (by kernel_rfl)) rfl ?_
              refine ⟨hpr5.2.chg hc8 fun i hi => by rw [hi]; exact Nat.le_refl _, ?_⟩
              rw [HF.out, hpo]
              exact ⟨_, _, _, rfl, hd5.chg hc8 fun ad e h0 h => by have := hn5 ad e; have h : ad.block = w.heap.size := h; omega, fun ad e => by have := hn5 ad e; omega⟩
          have hx1 : ∀ x, ws[1]? = some x → n ≠ 1 := fun x hx h => by
            have := (List.getElem?_eq_some_iff.1 hx).1
            omega
          by_cases h235 : m = 2 ∨ m = 3 ∨ m = 5
          · have HF : Hid (parseR l = if n ≠ 2 then none else some { St.of m with name := ws.getD 1 [] }) := Lib.hid (by rw [HPAR.out, if_neg hm0, if_neg hm1, if_pos h235, hn])
            have hzz : (cellsV (St.of m) none 0 0) = #[.int .i64 m, .string { data := #[] }, .slice none 0 0, .int .i64 0, .int .i64 0, .int .i64 0, .int .u8 0] := rfl
            by_cases hn2 : n = 2
            · subst hn2
              obtain ⟨x1, hx1⟩ : ∃ x, ws[1]? = some x := ⟨_, List.getElem?_eq_getElem (by omega)⟩
              have HF2 : Hid (parseR l = some { St.of m with name := x1 }) := Lib.hid (by rw [HF.out, if_neg (by decide)]; simp [List.getD_eq_getElem?_getD, hx1])
              have c1 := HCR.out 1 x1 hx1
              clear hx1 HF HCR HPAR
              rcases h235 with rfl | rfl | rfl
              all_goals
                go_wp2_with (first | (refine RowSt.wpList_put 43 _ _ rfl rfl rfl wr.heap.size (cellsV (St.of _) none 0 0) rfl rfl 43 _ (at_new wr _) (by kernel_rfl) rfl (cells_one _ _ _ _) ?_; intro w6 hb6 hc6; have HPR6 := Lib.hid (HPR.out.put hc6 hgr2); have d1 := put_cell c1 hc6; have q1 := blk_cell (i := 1) hb6 (Ext.refl _) rfl; have f1 := Pack.free_of hb6 1; have HB6 := Lib.hid (set_blk (i := 1) hb6 (.string (S x1))); have HG6 := Lib.hid (HPR6.out.put1 1 (.string (S x1)) hgr2 HPR.out.2.size); clear hb6 hc6) | (refine wpList_load_row rfl 43 _ rfl wr.heap.size rfl 43 (cellsV { St.of _ with name := x1 } none 0 0) (0, 0) _ HB6.out Try.underlying43 rfl (by kernel_rfl) ?_) | (refine RowSt.wpList_put 43 _ _ rfl rfl rfl w.heap.size (cellsV { St.of _ with name := x1 } none 0 0) rfl rfl 43 _ HG6.out.1 (by kernel_rfl) rfl (cells_one _ _ _ _) ?_; intro w8 hb8 hc8))
                refine bodyPost_ret (v := .tuple #[.agg _, .bool true]) (RowSt.results_cell_tmp (p := 2) (q := 3) rfl _ _ w.heap.size 43 _ (0, 0) _ rfl hb8 Try.underlying43 rfl (by kernel_rfl)) rfl ?_
                refine ⟨HG6.out.2.chg hc8 fun i hi => by rw [hi]; exact Nat.le_refl _, ?_⟩
                rw [HF2.out]
                exact ⟨none, 0, 0, rfl, rd_nil _ _ _, fun ad e => by cases e⟩
            · have HF2 : Hid (parseR l = none) := Lib.hid (by rw [HF.out, if_pos hn2])
              have hn2' : (n == 2) = false := beq_eq_false_iff_ne.2 hn2
              have hn2'' : ((n : Int) == 2) = false := by rw [beq_eq_false_iff_ne]; omega
              clear HF HCR HPAR
              rcases h235 with rfl | rfl | rfl
              all_goals
                go_wp2_with (first | (refine RowSt.wpList_put 43 _ _ rfl rfl rfl wr.heap.size (cellsV (St.of _) none 0 0) rfl rfl 43 _ (at_new wr _) (by kernel_rfl) rfl (cells_one _ _ _ _) ?_; intro w6 hb6 hc6; have HPR6 := Lib.hid (HPR.out.put hc6 hgr2); clear hb6 hc6) | (refine RowSt.wpList_put 43 _ _ rfl rfl rfl w.heap.size (cellsV (St.of 0) none 0 0) rfl rfl 43 _ HPR6.out.1 (by kernel_rfl) rfl (cells_one _ _ _ _) ?_; intro w8 hb8 hc8))
                refine bodyPost_ret (v := .tuple #[.agg _, .bool false]) (RowSt.results_cell_tmp (p := 2) (q := 3) rfl _ _ w.heap.size 43 _ (0, 0) _ rfl hb8 Try.underlying43 rfl (by kernel_rfl)) rfl ?_
                refine ⟨HPR6.out.2.chg hc8 fun i hi => by rw [hi]; exact Nat.le_refl _, ?_⟩
                rw [HF2.out]
          have HF : Hid (parseR l = match ScriptP.nums ws.tail with
            | none => none
            | some n => if n.length ≠ ScriptP.many m then none else ScriptP.fill m n) := Lib.hid (by rw [HPAR.out, if_neg hm0, if_neg hm1, if_neg h235])
          have HT : Hid (∀ x ∈ ws.tail, x.length ≤ 1000000) := Lib.hid fun x hx => Nat.le_trans (words_len l x (by rw [hws]; exact List.mem_of_mem_tail hx)) (by rw [HSZ.out]; exact ht)
          have hnn : n ≤ t.size + 1 := by rw [← hn, ← hws, ← HSZ.out]; exact words_cnt l
          have HTL : Hid (ws.tail.length = n - 1) := Lib.hid (by rw [List.length_tail, hn])
          have HTC : Hid (∀ j x, ws.tail[j]? = some x → wr.cell? ⟨g, 1 + j, none⟩ = some (.string (S x))) := Lib.hid fun j x hx => HCR.out (1 + j) x (by rw [List.getElem?_tail] at hx; rw [Nat.add_comm]; exact hx)
          clear HPAR HCR
          have hn1 : (1 : Int) ≤ n := by omega
          by_cases hc1 : c = 1
          · subst hc1
            have hn11 : n = 1 := by omega
            subst hn11
            have htl : ws.tail = [] := List.eq_nil_of_length_eq_zero HTL.out
            clear HT HTL HTC
            have hmc : (m = 4 ∨ m = 8) ∨ m = 6 ∨ m = 7 ∨ m = 9 ∨ m = 10 ∨ m = 11 ∨ m = 12 ∨ m = 13 ∨ m = 14 ∨ m = 15 ∨ m = 16 ∨ m = 17 := by omega
            rcases hmc with hmc | hmc
            · rcases hmc with rfl | rfl
              all_goals
                have HF2 : Hid (parseR l = some (St.of (_ : Nat))) := Lib.hid (HF.out.trans (by rw [htl]; rfl))
                go_wp2_with (refine RowSt.wpList_put 43 _ _ rfl rfl rfl wr.heap.size (cellsV (St.of _) none 0 0) rfl rfl 43 _ (at_new wr _) (by kernel_rfl) rfl (cells_one _ _ _ _) ?_; intro w6 hb6 hc6; have HPR6 := Lib.hid (HPR.out.put hc6 hgr2); have HB6 := Lib.hid hb6; clear hb6 hc6)
                refine (nums_calls _ 0 _ ([] : List L) _ ⟨rfl, fun j x hx => by simp at hx⟩ (by decide) (by simp)).mono ?_
                rintro e w7 ⟨he7, A7, c7, rfl, ho7⟩
                have HPM : Hid (PreR w (w7.alloc (.cells #[.int .i64 0, .int .i64 0, .int .i64 0, .int .i64 0, .int .i64 0, .int .i64 0, .int .i64 1, .int .i64 1, .int .i64 0, .int .i64 3, .int .i64 1, .int .i64 1, .int .i64 3, .int .i64 3, .int .i64 4, .int .i64 2, .int .i64 2, .int .i64 1] 3)) w.heap.size) := Lib.hid ((HPR6.out.ext_ he7).ext_ (Ext.new w7 _))
                have HBX := Lib.hid ((Ext.new w7 (.cells #[.int .i64 0, .int .i64 0, .int .i64 0, .int .i64 0, .int .i64 0, .int .i64 0, .int .i64 1, .int .i64 1, .int .i64 0, .int .i64 3, .int .i64 1, .int .i64 1, .int .i64 3, .int .i64 3, .int .i64 4, .int .i64 2, .int .i64 2, .int .i64 1] 3)).at_ (he7.at_ HB6.out))
                clear HPR6 HB6 he7 ho7
                go_wp2_with (first | (refine wpList_load_row rfl 43 _ rfl wr.heap.size rfl 43 (cellsV (St.of _) none 0 0) (0, 0) _ HBX.out Try.underlying43 rfl (by kernel_rfl) ?_) | (refine RowSt.wpList_put 43 _ _ rfl rfl rfl w.heap.size (cellsV (St.of _) none 0 0) rfl rfl 43 _ HPM.out.1 (by kernel_rfl) rfl (cells_one _ _ _ _) ?_; intro w8 hb8 hc8))
                refine bodyPost_ret (v := .tuple #[.agg _, .bool true]) (RowSt.results_cell_tmp (p := 2) (q := 3) rfl _ _ w.heap.size 43 _ (0, 0) _ rfl hb8 Try.underlying43 rfl (by kernel_rfl)) rfl ?_
                refine ⟨HPM.out.2.chg hc8 fun i hi => by rw [hi]; exact Nat.le_refl _, ?_⟩
                rw [HF2.out]
                exact ⟨none, 0, 0, rfl, rd_nil _ _ _, fun ad e => by cases e⟩
            · rcases hmc with rfl | rfl | rfl | rfl | rfl | rfl | rfl | rfl | rfl | rfl | rfl
              all_goals
                have HF2 : Hid (parseR l = none) := Lib.hid (HF.out.trans (by rw [htl]; rfl))
                go_wp2_with (refine RowSt.wpList_put 43 _ _ rfl rfl rfl wr.heap.size (cellsV (St.of _) none 0 0) rfl rfl 43 _ (at_new wr _) (by kernel_rfl) rfl (cells_one _ _ _ _) ?_; intro w6 hb6 hc6; have HPR6 := Lib.hid (HPR.out.put hc6 hgr2); have HB6 := Lib.hid hb6; clear hb6 hc6)
                refine (nums_calls _ 0 _ ([] : List L) _ ⟨rfl, fun j x hx => by simp at hx⟩ (by decide) (by simp)).mono ?_
                rintro e w7 ⟨he7, A7, c7, rfl, ho7⟩
                have HPM : Hid (PreR w (w7.alloc (.cells #[.int .i64 0, .int .i64 0, .int .i64 0, .int .i64 0, .int .i64 0, .int .i64 0, .int .i64 1, .int .i64 1, .int .i64 0, .int .i64 3, .int .i64 1, .int .i64 1, .int .i64 3, .int .i64 3, .int .i64 4, .int .i64 2, .int .i64 2, .int .i64 1] 3)) w.heap.size) := Lib.hid ((HPR6.out.ext_ he7).ext_ (Ext.new w7 _))
                clear HPR6 HB6 he7 ho7
                go_wp2_with (refine RowSt.wpList_put 43 _ _ rfl rfl rfl w.heap.size (cellsV (St.of 0) none 0 0) rfl rfl 43 _ HPM.out.1 (by kernel_rfl) rfl (cells_one _ _ _ _) ?_; intro w8 hb8 hc8)
                refine bodyPost_ret (v := .tuple #[.agg _, .bool false]) (RowSt.results_cell_tmp (p := 2) (q := 3) rfl _ _ w.heap.size 43 _ (0, 0) _ rfl hb8 Try.underlying43 rfl (by kernel_rfl)) rfl ?_
                refine ⟨HPM.out.2.chg hc8 fun i hi => by rw [hi]; exact Nat.le_refl _, ?_⟩
                rw [HF2.out]
          have hmc : m = 4 ∨ m = 6 ∨ m = 7 ∨ m = 8 ∨ m = 9 ∨ m = 10 ∨ m = 11 ∨ m = 12 ∨ m = 13 ∨ m = 14 ∨ m = 15 ∨ m = 16 ∨ m = 17 := by omega
          rcases hmc with rfl | rfl | rfl | rfl | rfl | rfl | rfl | rfl | rfl | rfl | rfl | rfl | rfl
          · go_wp2_with (refine RowSt.wpList_put 43 _ _ rfl rfl rfl wr.heap.size (cellsV (St.of _) none 0 0) rfl rfl 43 _ (at_new wr _) (by kernel_rfl) rfl (cells_one _ _ _ _) ?_; intro w6 hb6 hc6; have HPR6 := Lib.hid (HPR.out.put hc6 hgr2); have HB6 := Lib.hid hb6; have HC6 := Lib.hid hc6; clear hb6 hc6)
            refine (nums_calls _ _ _ ws.tail _ ⟨HTL.out, fun j x hx => ⟨_, rfl, (by rw [add1]; exact put_cell (HTC.out j x hx) HC6.out)⟩⟩ (by omega) HT.out).mono ?_
            rintro e w7 ⟨he7, hp7⟩
            have HPR7 := Lib.hid (HPR6.out.ext_ he7)
            have HB7 := Lib.hid (he7.at_ HB6.out)
            have HPM : Hid (PreR w (w7.alloc (.cells #[.int .i64 0, .int .i64 0, .int .i64 0, .int .i64 0, .int .i64 0, .int .i64 0, .int .i64 1, .int .i64 1, .int .i64 0, .int .i64 3, .int .i64 1, .int .i64 1, .int .i64 3, .int .i64 3, .int .i64 4, .int .i64 2, .int .i64 2, .int .i64 1] 3)) w.heap.size) := Lib.hid (HPR7.out.ext_ (Ext.new w7 _))
            clear HPR6 HB6 he7
            cases hno : ScriptP.nums ws.tail with
            | none =>
              rw [hno] at hp7
              obtain rfl := hp7
              have HF2 : Hid (parseR l = none) := Lib.hid (by rw [HF.out, hno])
              go_wp2_with (refine RowSt.wpList_put 43 _ _ rfl rfl rfl w.heap.size (cellsV (St.of 0) none 0 0) rfl rfl 43 _ HPM.out.1 (by kernel_rfl) rfl (cells_one _ _ _ _) ?_; intro w8 hb8 hc8)
              refine bodyPost_ret (v := .tuple #[.agg _, .bool false]) (RowSt.results_cell_tmp (p := 2) (q := 3) rfl _ _ w.heap.size 43 _ (0, 0) _ rfl hb8 Try.underlying43 rfl (by kernel_rfl)) rfl ?_
              refine ⟨HPM.out.2.chg hc8 fun i hi => by rw [hi]; exact Nat.le_refl _, ?_⟩
              rw [HF2.out]
            | some ns =>
              rw [hno] at hp7
              obtain ⟨A7, c7, rfl, ho7⟩ := hp7
              by_cases hlen : ns.length = 0
              · have hbx : (w7.alloc (.cells #[.int .i64 0, .int .i64 0, .int .i64 0, .int .i64 0, .int .i64 0, .int .i64 0, .int .i64 1, .int .i64 1, .int .i64 0, .int .i64 3, .int .i64 1, .int .i64 1, .int .i64 3, .int .i64 3, .int .i64 4, .int .i64 2, .int .i64 2, .int .i64 1] 3)).heap[wr.heap.size]? = some (.cells (cellsV (St.of (4 : Nat)) none 0 0) 43 (0, 0)) := (Ext.new w7 _).at_ HB7.out
                obtain rfl := List.eq_nil_of_length_eq_zero hlen
                have hfill : parseR l = ScriptP.fill 4 [] := by rw [HF.out, hno]; rfl
                have HF2 : Hid (parseR l = some (St.of (4 : Nat))) := Lib.hid (by rw [hfill]; rfl)
                clear hfill
                have HBX := Lib.hid hbx
                have HPX := Lib.hid HPM.out
                clear hbx
                go_wp2_with (first | (refine wpList_load_row rfl 43 _ rfl wr.heap.size rfl 43 (cellsV (St.of (4 : Nat)) none 0 0) (0, 0) _ HBX.out Try.underlying43 rfl (by kernel_rfl) ?_) | (refine RowSt.wpList_put 43 _ _ rfl rfl rfl w.heap.size (cellsV (St.of (4 : Nat)) none 0 0) rfl rfl 43 _ HPX.out.1 (by kernel_rfl) rfl (cells_one _ _ _ _) ?_; intro w8 hb8 hc8))
                refine bodyPost_ret (v := .tuple #[.agg _, .bool true]) (RowSt.results_cell_tmp (p := 2) (q := 3) rfl _ _ w.heap.size 43 _ (0, 0) _ rfl hb8 Try.underlying43 rfl (by kernel_rfl)) rfl ?_
                refine ⟨HPX.out.2.chg hc8 fun i hi => by rw [hi]; exact Nat.le_refl _, ?_⟩
                rw [HF2.out]
                exact ⟨none, 0, 0, rfl, rd_nil _ _ _, fun ad e => by cases e⟩
              · have HF2 : Hid (parseR l = none) := Lib.hid (by rw [HF.out, hno]; exact if_pos hlen)
                have hl1 : ((ns.length : Int) == 0) = false := by rw [beq_eq_false_iff_ne]; omega
                have hl2 : (ns.length == 0) = false := beq_eq_false_iff_ne.2 hlen
                clear ho7
                go_wp2_with (refine RowSt.wpList_put 43 _ _ rfl rfl rfl w.heap.size (cellsV (St.of 0) none 0 0) rfl rfl 43 _ HPM.out.1 (by kernel_rfl) rfl (cells_one _ _ _ _) ?_; intro w8 hb8 hc8)
                refine bodyPost_ret (v := .tuple #[.agg _, .bool false]) (RowSt.results_cell_tmp (p := 2) (q := 3) rfl _ _ w.heap.size 43 _ (0, 0) _ rfl hb8 Try.underlying43 rfl (by kernel_rfl)) rfl ?_
                refine ⟨HPM.out.2.chg hc8 fun i hi => by rw [hi]; exact Nat.le_refl _, ?_⟩
                rw [HF2.out]
          · go_wp2_with (refine RowSt.wpList_put 43 _ _ rfl rfl rfl wr.heap.size (cellsV (St.of _) none 0 0) rfl rfl 43 _ (at_new wr _) (by kernel_rfl) rfl (cells_one _ _ _ _) ?_; intro w6 hb6 hc6; have HPR6 := Lib.hid (HPR.out.put hc6 hgr2); have HB6 := Lib.hid hb6; have HC6 := Lib.hid hc6; clear hb6 hc6)
            refine (nums_calls _ _ _ ws.tail _ ⟨HTL.out, fun j x hx => ⟨_, rfl, (by rw [add1]; exact put_cell (HTC.out j x hx) HC6.out)⟩⟩ (by omega) HT.out).mono ?_
            rintro e w7 ⟨he7, hp7⟩
            have HPR7 := Lib.hid (HPR6.out.ext_ he7)
            have HB7 := Lib.hid (he7.at_ HB6.out)
            have HPM : Hid (PreR w (w7.alloc (.cells #[.int .i64 0, .int .i64 0, .int .i64 0, .int .i64 0, .int .i64 0, .int .i64 0, .int .i64 1, .int .i64 1, .int .i64 0, .int .i64 3, .int .i64 1, .int .i64 1, .int .i64 3, .int .i64 3, .int .i64 4, .int .i64 2, .int .i64 2, .int .i64 1] 3)) w.heap.size) := Lib.hid (HPR7.out.ext_ (Ext.new w7 _))
            clear HPR6 HB6 he7
            cases hno : ScriptP.nums ws.tail with
            | none =>
              rw [hno] at hp7
              obtain rfl := hp7
              have HF2 : Hid (parseR l = none) := Lib.hid (by rw [HF.out, hno])
              go_wp2_with (refine RowSt.wpList_put 43 _ _ rfl rfl rfl w.heap.size (cellsV (St.of 0) none 0 0) rfl rfl 43 _ HPM.out.1 (by kernel_rfl) rfl (cells_one _ _ _ _) ?_; intro w8 hb8 hc8)
              refine bodyPost_ret (v := .tuple #[.agg _, .bool false]) (RowSt.results_cell_tmp (p := 2) (q := 3) rfl _ _ w.heap.size 43 _ (0, 0) _ rfl hb8 Try.underlying43 rfl (by kernel_rfl)) rfl ?_
              refine ⟨HPM.out.2.chg hc8 fun i hi => by rw [hi]; exact Nat.le_refl _, ?_⟩
              rw [HF2.out]
            | some ns =>
              rw [hno] at hp7
              obtain ⟨A7, c7, rfl, ho7⟩ := hp7
              by_cases hlen : ns.length = 1
              · have hbx : (w7.alloc (.cells #[.int .i64 0, .int .i64 0, .int .i64 0, .int .i64 0, .int .i64 0, .int .i64 0, .int .i64 1, .int .i64 1, .int .i64 0, .int .i64 3, .int .i64 1, .int .i64 1, .int .i64 3, .int .i64 3, .int .i64 4, .int .i64 2, .int .i64 2, .int .i64 1] 3)).heap[wr.heap.size]? = some (.cells (cellsV (St.of (6 : Nat)) none 0 0) 43 (0, 0)) := (Ext.new w7 _).at_ HB7.out
                obtain ⟨y0, rfl⟩ := len1 hlen
                obtain ⟨g7, rfl, hc7⟩ := own_at ho7 (by simp)
                have v0 : (w7.alloc (.cells #[.int .i64 0, .int .i64 0, .int .i64 0, .int .i64 0, .int .i64 0, .int .i64 0, .int .i64 1, .int .i64 1, .int .i64 0, .int .i64 3, .int .i64 1, .int .i64 1, .int .i64 3, .int .i64 3, .int .i64 4, .int .i64 2, .int .i64 2, .int .i64 1] 3)).cell? ⟨g7, 0, none⟩ = some (.int .i64 (y0 : Int)) := (Ext.new w7 _).cell_ (hc7 0 _ rfl)
                clear hc7 ho7
                have hfill : parseR l = ScriptP.fill 6 [y0] := by rw [HF.out, hno]; rfl
                have HF2 : Hid (parseR l = some { St.of (6 : Nat) with a := ((y0 : Nat) : Int) }) := Lib.hid (by rw [hfill]; rfl)
                clear hfill
                have q4 := blk_cell (i := 4) hbx (Ext.refl _) rfl
                have f4 := Pack.free_of hbx 4
                have HBX := Lib.hid (set_blk (i := 4) hbx (.int .i64 ((y0 : Nat) : Int)))
                have HPX := Lib.hid (HPM.out.put1 4 (.int .i64 ((y0 : Nat) : Int)) hgr2 HPR.out.2.size)
                clear hbx
                go_wp2_with (first | (refine wpList_load_row rfl 43 _ rfl wr.heap.size rfl 43 (cellsV { St.of (6 : Nat) with a := ((y0 : Nat) : Int) } none 0 0) (0, 0) _ HBX.out Try.underlying43 rfl (by kernel_rfl) ?_) | (refine RowSt.wpList_put 43 _ _ rfl rfl rfl w.heap.size (cellsV { St.of (6 : Nat) with a := ((y0 : Nat) : Int) } none 0 0) rfl rfl 43 _ HPX.out.1 (by kernel_rfl) rfl (cells_one _ _ _ _) ?_; intro w8 hb8 hc8))
                refine bodyPost_ret (v := .tuple #[.agg _, .bool true]) (RowSt.results_cell_tmp (p := 2) (q := 3) rfl _ _ w.heap.size 43 _ (0, 0) _ rfl hb8 Try.underlying43 rfl (by kernel_rfl)) rfl ?_
                refine ⟨HPX.out.2.chg hc8 fun i hi => by rw [hi]; exact Nat.le_refl _, ?_⟩
                rw [HF2.out]
                exact ⟨none, 0, 0, rfl, rd_nil _ _ _, fun ad e => by cases e⟩
              · have HF2 : Hid (parseR l = none) := Lib.hid (by rw [HF.out, hno]; exact if_pos hlen)
                have hl1 : ((ns.length : Int) == 1) = false := by rw [beq_eq_false_iff_ne]; omega
                have hl2 : (ns.length == 1) = false := beq_eq_false_iff_ne.2 hlen
                clear ho7
                go_wp2_with (refine RowSt.wpList_put 43 _ _ rfl rfl rfl w.heap.size (cellsV (St.of 0) none 0 0) rfl rfl 43 _ HPM.out.1 (by kernel_rfl) rfl (cells_one _ _ _ _) ?_; intro w8 hb8 hc8)
                refine bodyPost_ret (v := .tuple #[.agg _, .bool false]) (RowSt.results_cell_tmp (p := 2) (q := 3) rfl _ _ w.heap.size 43 _ (0, 0) _ rfl hb8 Try.underlying43 rfl (by kernel_rfl)) rfl ?_
                refine ⟨HPM.out.2.chg hc8 fun i hi => by rw [hi]; exact Nat.le_refl _, ?_⟩
                rw [HF2.out]
          · go_wp2_with (refine RowSt.wpList_put 43 _ _ rfl rfl rfl wr.heap.size (cellsV (St.of _) none 0 0) rfl rfl 43 _ (at_new wr _) (by kernel_rfl) rfl (cells_one _ _ _ _) ?_; intro w6 hb6 hc6; have HPR6 := Lib.hid (HPR.out.put hc6 hgr2); have HB6 := Lib.hid hb6; have HC6 := Lib.hid hc6; clear hb6 hc6)
            refine (nums_calls _ _ _ ws.tail _ ⟨HTL.out, fun j x hx => ⟨_, rfl, (by rw [add1]; exact put_cell (HTC.out j x hx) HC6.out)⟩⟩ (by omega) HT.out).mono ?_
            rintro e w7 ⟨he7, hp7⟩
            have HPR7 := Lib.hid (HPR6.out.ext_ he7)
            have HB7 := Lib.hid (he7.at_ HB6.out)
            have HPM : Hid (PreR w (w7.alloc (.cells #[.int .i64 0, .int .i64 0, .int .i64 0, .int .i64 0, .int .i64 0, .int .i64 0, .int .i64 1, .int .i64 1, .int .i64 0, .int .i64 3, .int .i64 1, .int .i64 1, .int .i64 3, .int .i64 3, .int .i64 4, .int .i64 2, .int .i64 2, .int .i64 1] 3)) w.heap.size) := Lib.hid (HPR7.out.ext_ (Ext.new w7 _))
            clear HPR6 HB6 he7
            cases hno : ScriptP.nums ws.tail with
            | none =>
              rw [hno] at hp7
              obtain rfl := hp7
              have HF2 : Hid (parseR l = none) := Lib.hid (by rw [HF.out, hno])
              go_wp2_with (refine RowSt.wpList_put 43 _ _ rfl rfl rfl w.heap.size (cellsV (St.of 0) none 0 0) rfl rfl 43 _ HPM.out.1 (by kernel_rfl) rfl (cells_one _ _ _ _) ?_; intro w8 hb8 hc8)
              refine bodyPost_ret (v := .tuple #[.agg _, .bool false]) (RowSt.results_cell_tmp (p := 2) (q := 3) rfl _ _ w.heap.size 43 _ (0, 0) _ rfl hb8 Try.underlying43 rfl (by kernel_rfl)) rfl ?_
              refine ⟨HPM.out.2.chg hc8 fun i hi => by rw [hi]; exact Nat.le_refl _, ?_⟩
              rw [HF2.out]
            | some ns =>
              rw [hno] at hp7
              obtain ⟨A7, c7, rfl, ho7⟩ := hp7
              by_cases hlen : ns.length = 1
              · have hbx : (w7.alloc (.cells #[.int .i64 0, .int .i64 0, .int .i64 0, .int .i64 0, .int .i64 0, .int .i64 0, .int .i64 1, .int .i64 1, .int .i64 0, .int .i64 3, .int .i64 1, .int .i64 1, .int .i64 3, .int .i64 3, .int .i64 4, .int .i64 2, .int .i64 2, .int .i64 1] 3)).heap[wr.heap.size]? = some (.cells (cellsV (St.of (7 : Nat)) none 0 0) 43 (0, 0)) := (Ext.new w7 _).at_ HB7.out
                obtain ⟨y0, rfl⟩ := len1 hlen
                obtain ⟨g7, rfl, hc7⟩ := own_at ho7 (by simp)
                have v0 : (w7.alloc (.cells #[.int .i64 0, .int .i64 0, .int .i64 0, .int .i64 0, .int .i64 0, .int .i64 0, .int .i64 1, .int .i64 1, .int .i64 0, .int .i64 3, .int .i64 1, .int .i64 1, .int .i64 3, .int .i64 3, .int .i64 4, .int .i64 2, .int .i64 2, .int .i64 1] 3)).cell? ⟨g7, 0, none⟩ = some (.int .i64 (y0 : Int)) := (Ext.new w7 _).cell_ (hc7 0 _ rfl)
                clear hc7 ho7
                have hfill : parseR l = ScriptP.fill 7 [y0] := by rw [HF.out, hno]; rfl
                have HF2 : Hid (parseR l = some { St.of (7 : Nat) with a := ((y0 : Nat) : Int) }) := Lib.hid (by rw [hfill]; rfl)
                clear hfill
                have q4 := blk_cell (i := 4) hbx (Ext.refl _) rfl
                have f4 := Pack.free_of hbx 4
                have HBX := Lib.hid (set_blk (i := 4) hbx (.int .i64 ((y0 : Nat) : Int)))
                have HPX := Lib.hid (HPM.out.put1 4 (.int .i64 ((y0 : Nat) : Int)) hgr2 HPR.out.2.size)
                clear hbx
                go_wp2_with (first | (refine wpList_load_row rfl 43 _ rfl wr.heap.size rfl 43 (cellsV { St.of (7 : Nat) with a := ((y0 : Nat) : Int) } none 0 0) (0, 0) _ HBX.out Try.underlying43 rfl (by kernel_rfl) ?_) | (refine RowSt.wpList_put 43 _ _ rfl rfl rfl w.heap.size (cellsV { St.of (7 : Nat) with a := ((y0 : Nat) : Int) } none 0 0) rfl rfl 43 _ HPX.out.1 (by kernel_rfl) rfl (cells_one _ _ _ _) ?_; intro w8 hb8 hc8))
                refine bodyPost_ret (v := .tuple #[.agg _, .bool true]) (RowSt.results_cell_tmp (p := 2) (q := 3) rfl _ _ w.heap.size 43 _ (0, 0) _ rfl hb8 Try.underlying43 rfl (by kernel_rfl)) rfl ?_
                refine ⟨HPX.out.2.chg hc8 fun i hi => by rw [hi]; exact Nat.le_refl _, ?_⟩
                rw [HF2.out]
                exact ⟨none, 0, 0, rfl, rd_nil _ _ _, fun ad e => by cases e⟩
              · have HF2 : Hid (parseR l = none) := Lib.hid (by rw [HF.out, hno]; exact if_pos hlen)
                have hl1 : ((ns.length : Int) == 1) = false := by rw [beq_eq_false_iff_ne]; omega
                have hl2 : (ns.length == 1) = false := beq_eq_false_iff_ne.2 hlen
                clear ho7
                go_wp2_with (refine RowSt.wpList_put 43 _ _ rfl rfl rfl w.heap.size (cellsV (St.of 0) none 0 0) rfl rfl 43 _ HPM.out.1 (by kernel_rfl) rfl (cells_one _ _ _ _) ?_; intro w8 hb8 hc8)
                refine bodyPost_ret (v := .tuple #[.agg _, .bool false]) (RowSt.results_cell_tmp (p := 2) (q := 3) rfl _ _ w.heap.size 43 _ (0, 0) _ rfl hb8 Try.underlying43 rfl (by kernel_rfl)) rfl ?_
                refine ⟨HPM.out.2.chg hc8 fun i hi => by rw [hi]; exact Nat.le_refl _, ?_⟩
                rw [HF2.out]
          · go_wp2_with (refine RowSt.wpList_put 43 _ _ rfl rfl rfl wr.heap.size (cellsV (St.of _) none 0 0) rfl rfl 43 _ (at_new wr _) (by kernel_rfl) rfl (cells_one _ _ _ _) ?_; intro w6 hb6 hc6; have HPR6 := Lib.hid (HPR.out.put hc6 hgr2); have HB6 := Lib.hid hb6; have HC6 := Lib.hid hc6; clear hb6 hc6)
            refine (nums_calls _ _ _ ws.tail _ ⟨HTL.out, fun j x hx => ⟨_, rfl, (by rw [add1]; exact put_cell (HTC.out j x hx) HC6.out)⟩⟩ (by omega) HT.out).mono ?_
            rintro e w7 ⟨he7, hp7⟩
            have HPR7 := Lib.hid (HPR6.out.ext_ he7)
            have HB7 := Lib.hid (he7.at_ HB6.out)
            have HPM : Hid (PreR w (w7.alloc (.cells #[.int .i64 0, .int .i64 0, .int .i64 0, .int .i64 0, .int .i64 0, .int .i64 0, .int .i64 1, .int .i64 1, .int .i64 0, .int .i64 3, .int .i64 1, .int .i64 1, .int .i64 3, .int .i64 3, .int .i64 4, .int .i64 2, .int .i64 2, .int .i64 1] 3)) w.heap.size) := Lib.hid (HPR7.out.ext_ (Ext.new w7 _))
            clear HPR6 HB6 he7
            cases hno : ScriptP.nums ws.tail with
            | none =>
              rw [hno] at hp7
              obtain rfl := hp7
              have HF2 : Hid (parseR l = none) := Lib.hid (by rw [HF.out, hno])
              go_wp2_with (refine RowSt.wpList_put 43 _ _ rfl rfl rfl w.heap.size (cellsV (St.of 0) none 0 0) rfl rfl 43 _ HPM.out.1 (by kernel_rfl) rfl (cells_one _ _ _ _) ?_; intro w8 hb8 hc8)
              refine bodyPost_ret (v := .tuple #[.agg _, .bool false]) (RowSt.results_cell_tmp (p := 2) (q := 3) rfl _ _ w.heap.size 43 _ (0, 0) _ rfl hb8 Try.underlying43 rfl (by kernel_rfl)) rfl ?_
              refine ⟨HPM.out.2.chg hc8 fun i hi => by rw [hi]; exact Nat.le_refl _, ?_⟩
              rw [HF2.out]
            | some ns =>
              rw [hno] at hp7
              obtain ⟨A7, c7, rfl, ho7⟩ := hp7
              by_cases hlen : ns.length = 0
              · have hbx : (w7.alloc (.cells #[.int .i64 0, .int .i64 0, .int .i64 0, .int .i64 0, .int .i64 0, .int .i64 0, .int .i64 1, .int .i64 1, .int .i64 0, .int .i64 3, .int .i64 1, .int .i64 1, .int .i64 3, .int .i64 3, .int .i64 4, .int .i64 2, .int .i64 2, .int .i64 1] 3)).heap[wr.heap.size]? = some (.cells (cellsV (St.of (8 : Nat)) none 0 0) 43 (0, 0)) := (Ext.new w7 _).at_ HB7.out
                obtain rfl := List.eq_nil_of_length_eq_zero hlen
                have hfill : parseR l = ScriptP.fill 8 [] := by rw [HF.out, hno]; rfl
                have HF2 : Hid (parseR l = some (St.of (8 : Nat))) := Lib.hid (by rw [hfill]; rfl)
                clear hfill
                have HBX := Lib.hid hbx
                have HPX := Lib.hid HPM.out
                clear hbx
                go_wp2_with (first | (refine wpList_load_row rfl 43 _ rfl wr.heap.size rfl 43 (cellsV (St.of (8 : Nat)) none 0 0) (0, 0) _ HBX.out Try.underlying43 rfl (by kernel_rfl) ?_) | (refine RowSt.wpList_put 43 _ _ rfl rfl rfl w.heap.size (cellsV (St.of (8 : Nat)) none 0 0) rfl rfl 43 _ HPX.out.1 (by kernel_rfl) rfl (cells_one _ _ _ _) ?_; intro w8 hb8 hc8))
                refine bodyPost_ret (v := .tuple #[.agg _, .bool true]) (RowSt.results_cell_tmp (p := 2) (q := 3) rfl _ _ w.heap.size 43 _ (0, 0) _ rfl hb8 Try.underlying43 rfl (by kernel_rfl)) rfl ?_
                refine ⟨HPX.out.2.chg hc8 fun i hi => by rw [hi]; exact Nat.le_refl _, ?_⟩
                rw [HF2.out]
                exact ⟨none, 0, 0, rfl, rd_nil _ _ _, fun ad e => by cases e⟩
              · have HF2 : Hid (parseR l = none) := Lib.hid (by rw [HF.out, hno]; exact if_pos hlen)
                have hl1 : ((ns.length : Int) == 0) = false := by rw [beq_eq_false_iff_ne]; omega
                have hl2 : (ns.length == 0) = false := beq_eq_false_iff_ne.2 hlen
                clear ho7
                go_wp2_with (refine RowSt.wpList_put 43 _ _ rfl rfl rfl w.heap.size (cellsV (St.of 0) none 0 0) rfl rfl 43 _ HPM.out.1 (by kernel_rfl) rfl (cells_one _ _ _ _) ?_; intro w8 hb8 hc8)
                refine bodyPost_ret (v := .tuple #[.agg _, .bool false]) (RowSt.results_cell_tmp (p := 2) (q := 3) rfl _ _ w.heap.size 43 _ (0, 0) _ rfl hb8 Try.underlying43 rfl (by kernel_rfl)) rfl ?_
                refine ⟨HPM.out.2.chg hc8 fun i hi => by rw [hi]; exact Nat.le_refl _, ?_⟩
                rw [HF2.out]
          · go_wp2_with (refine RowSt.wpList_put 43 _ _ rfl rfl rfl wr.heap.size (cellsV (St.of _) none 0 0) rfl rfl 43 _ (at_new wr _) (by kernel_rfl) rfl (cells_one _ _ _ _) ?_; intro w6 hb6 hc6; have HPR6 := Lib.hid (HPR.out.put hc6 hgr2); have HB6 := Lib.hid hb6; have HC6 := Lib.hid hc6; clear hb6 hc6)
            refine (nums_calls _ _ _ ws.tail _ ⟨HTL.out, fun j x hx => ⟨_, rfl, (by rw [add1]; exact put_cell (HTC.out j x hx) HC6.out)⟩⟩ (by omega) HT.out).mono ?_
            rintro e w7 ⟨he7, hp7⟩
            have HPR7 := Lib.hid (HPR6.out.ext_ he7)
            have HB7 := Lib.hid (he7.at_ HB6.out)
            have HPM : Hid (PreR w (w7.alloc (.cells #[.int .i64 0, .int .i64 0, .int .i64 0, .int .i64 0, .int .i64 0, .int .i64 0, .int .i64 1, .int .i64 1, .int .i64 0, .int .i64 3, .int .i64 1, .int .i64 1, .int .i64 3, .int .i64 3, .int .i64 4, .int .i64 2, .int .i64 2, .int .i64 1] 3)) w.heap.size) := Lib.hid (HPR7.out.ext_ (Ext.new w7 _))
            clear HPR6 HB6 he7
            cases hno : ScriptP.nums ws.tail with
            | none =>
              rw [hno] at hp7
              obtain rfl := hp7
              have HF2 : Hid (parseR l = none) := Lib.hid (by rw [HF.out, hno])
              go_wp2_with (refine RowSt.wpList_put 43 _ _ rfl rfl rfl w.heap.size (cellsV (St.of 0) none 0 0) rfl rfl 43 _ HPM.out.1 (by kernel_rfl) rfl (cells_one _ _ _ _) ?_; intro w8 hb8 hc8)
              refine bodyPost_ret (v := .tuple #[.agg _, .bool false]) (RowSt.results_cell_tmp (p := 2) (q := 3) rfl _ _ w.heap.size 43 _ (0, 0) _ rfl hb8 Try.underlying43 rfl (by kernel_rfl)) rfl ?_
              refine ⟨HPM.out.2.chg hc8 fun i hi => by rw [hi]; exact Nat.le_refl _, ?_⟩
              rw [HF2.out]
            | some ns =>
              rw [hno] at hp7
              obtain ⟨A7, c7, rfl, ho7⟩ := hp7
              by_cases hlen : ns.length = 3
              · have hbx : (w7.alloc (.cells #[.int .i64 0, .int .i64 0, .int .i64 0, .int .i64 0, .int .i64 0, .int .i64 0, .int .i64 1, .int .i64 1, .int .i64 0, .int .i64 3, .int .i64 1, .int .i64 1, .int .i64 3, .int .i64 3, .int .i64 4, .int .i64 2, .int .i64 2, .int .i64 1] 3)).heap[wr.heap.size]? = some (.cells (cellsV (St.of (9 : Nat)) none 0 0) 43 (0, 0)) := (Ext.new w7 _).at_ HB7.out
                obtain ⟨y0, y1, y2, rfl⟩ := len3 hlen
                obtain ⟨g7, rfl, hc7⟩ := own_at ho7 (by simp)
                have v0 : (w7.alloc (.cells #[.int .i64 0, .int .i64 0, .int .i64 0, .int .i64 0, .int .i64 0, .int .i64 0, .int .i64 1, .int .i64 1, .int .i64 0, .int .i64 3, .int .i64 1, .int .i64 1, .int .i64 3, .int .i64 3, .int .i64 4, .int .i64 2, .int .i64 2, .int .i64 1] 3)).cell? ⟨g7, 0, none⟩ = some (.int .i64 (y0 : Int)) := (Ext.new w7 _).cell_ (hc7 0 _ rfl)
                have v1 : (w7.alloc (.cells #[.int .i64 0, .int .i64 0, .int .i64 0, .int .i64 0, .int .i64 0, .int .i64 0, .int .i64 1, .int .i64 1, .int .i64 0, .int .i64 3, .int .i64 1, .int .i64 1, .int .i64 3, .int .i64 3, .int .i64 4, .int .i64 2, .int .i64 2, .int .i64 1] 3)).cell? ⟨g7, 1, none⟩ = some (.int .i64 (y1 : Int)) := (Ext.new w7 _).cell_ (hc7 1 _ rfl)
                have v2 : (w7.alloc (.cells #[.int .i64 0, .int .i64 0, .int .i64 0, .int .i64 0, .int .i64 0, .int .i64 0, .int .i64 1, .int .i64 1, .int .i64 0, .int .i64 3, .int .i64 1, .int .i64 1, .int .i64 3, .int .i64 3, .int .i64 4, .int .i64 2, .int .i64 2, .int .i64 1] 3)).cell? ⟨g7, 2, none⟩ = some (.int .i64 (y2 : Int)) := (Ext.new w7 _).cell_ (hc7 2 _ rfl)
                clear hc7 ho7
                have hfill : parseR l = ScriptP.fill 9 [y0, y1, y2] := by rw [HF.out, hno]; rfl
                have HF2 : Hid (parseR l = some { St.of (9 : Nat) with node := ((y0 : Nat) : Int), a := ((y1 : Nat) : Int), b := ((y2 : Nat) : Int) }) := Lib.hid (by rw [hfill]; rfl)
                clear hfill
                go_wp2_with fail
                generalize (w7.alloc (.cells #[.int .i64 0, .int .i64 0, .int .i64 0, .int .i64 0, .int .i64 0, .int .i64 0, .int .i64 1, .int .i64 1, .int .i64 0, .int .i64 3, .int .i64 1, .int .i64 1, .int .i64 3, .int .i64 3, .int .i64 4, .int .i64 2, .int .i64 2, .int .i64 1] 3)) = wM at v0 v1 v2 hbx HPM ⊢
                have q3 := blk_cell (i := 3) hbx (Ext.refl _) rfl
                have f3 := Pack.free_of hbx 3
                have q4 := blk_cell (i := 4) hbx (Ext.refl _) rfl
                have f4 := Pack.free_of hbx 4
                have q5 := blk_cell (i := 5) hbx (Ext.refl _) rfl
                have f5 := Pack.free_of hbx 5
                have hbd : wM.drew.heap[wr.heap.size]? = some (.cells (cellsV (St.of (9 : Nat)) none 0 0) 43 (0, 0)) := hbx
                have HPD : PreR w wM.drew w.heap.size := HPM.out.ext_ (Ext.refl wM).drew
                have HBX := Lib.hid (set_blk (i := 5) (set_blk (i := 4) (set_blk (i := 3) hbd (.int .i64 ((y0 : Nat) : Int))) (.int .i64 ((y1 : Nat) : Int))) (.int .i64 ((y2 : Nat) : Int)))
                have HPX := Lib.hid (((HPD.put1 3 (.int .i64 ((y0 : Nat) : Int)) hgr2 HPR.out.2.size).put1 4 (.int .i64 ((y1 : Nat) : Int)) hgr2 HPR.out.2.size).put1 5 (.int .i64 ((y2 : Nat) : Int)) hgr2 HPR.out.2.size)
                clear hbx hbd HPD
                go_region
                go_wp2_with (first | (refine wpList_load_row rfl 43 _ rfl wr.heap.size rfl 43 (cellsV { St.of (9 : Nat) with node := ((y0 : Nat) : Int), a := ((y1 : Nat) : Int), b := ((y2 : Nat) : Int) } none 0 0) (0, 0) _ HBX.out Try.underlying43 rfl (by kernel_rfl) ?_) | (refine RowSt.wpList_put 43 _ _ rfl rfl rfl w.heap.size (cellsV { St.of (9 : Nat) with node := ((y0 : Nat) : Int), a := ((y1 : Nat) : Int), b := ((y2 : Nat) : Int) } none 0 0) rfl rfl 43 _ HPX.out.1 (by kernel_rfl) rfl (cells_one _ _ _ _) ?_; intro w8 hb8 hc8))
                refine bodyPost_ret (v := .tuple #[.agg _, .bool true]) (RowSt.results_cell_tmp (p := 2) (q := 3) rfl _ _ w.heap.size 43 _ (0, 0) _ rfl hb8 Try.underlying43 rfl (by kernel_rfl)) rfl ?_
                refine ⟨HPX.out.2.chg hc8 fun i hi => by rw [hi]; exact Nat.le_refl _, ?_⟩
                rw [HF2.out]
                exact ⟨none, 0, 0, rfl, rd_nil _ _ _, fun ad e => by cases e⟩
              · have HF2 : Hid (parseR l = none) := Lib.hid (by rw [HF.out, hno]; exact if_pos hlen)
                have hl1 : ((ns.length : Int) == 3) = false := by rw [beq_eq_false_iff_ne]; omega
                have hl2 : (ns.length == 3) = false := beq_eq_false_iff_ne.2 hlen
                clear ho7
                go_wp2_with (refine RowSt.wpList_put 43 _ _ rfl rfl rfl w.heap.size (cellsV (St.of 0) none 0 0) rfl rfl 43 _ HPM.out.1 (by kernel_rfl) rfl (cells_one _ _ _ _) ?_; intro w8 hb8 hc8)
                refine bodyPost_ret (v := .tuple #[.agg _, .bool false]) (RowSt.results_cell_tmp (p := 2) (q := 3) rfl _ _ w.heap.size 43 _ (0, 0) _ rfl hb8 Try.underlying43 rfl (by kernel_rfl)) rfl ?_
                refine ⟨HPM.out.2.chg hc8 fun i hi => by rw [hi]; exact Nat.le_refl _, ?_⟩
                rw [HF2.out]
          · go_wp2_with (refine RowSt.wpList_put 43 _ _ rfl rfl rfl wr.heap.size (cellsV (St.of _) none 0 0) rfl rfl 43 _ (at_new wr _) (by kernel_rfl) rfl (cells_one _ _ _ _) ?_; intro w6 hb6 hc6; have HPR6 := Lib.hid (HPR.out.put hc6 hgr2); have HB6 := Lib.hid hb6; have HC6 := Lib.hid hc6; clear hb6 hc6)
            refine (nums_calls _ _ _ ws.tail _ ⟨HTL.out, fun j x hx => ⟨_, rfl, (by rw [add1]; exact put_cell (HTC.out j x hx) HC6.out)⟩⟩ (by omega) HT.out).mono ?_
            rintro e w7 ⟨he7, hp7⟩
            have HPR7 := Lib.hid (HPR6.out.ext_ he7)
            have HB7 := Lib.hid (he7.at_ HB6.out)
            have HPM : Hid (PreR w (w7.alloc (.cells #[.int .i64 0, .int .i64 0, .int .i64 0, .int .i64 0, .int .i64 0, .int .i64 0, .int .i64 1, .int .i64 1, .int .i64 0, .int .i64 3, .int .i64 1, .int .i64 1, .int .i64 3, .int .i64 3, .int .i64 4, .int .i64 2, .int .i64 2, .int .i64 1] 3)) w.heap.size) := Lib.hid (HPR7.out.ext_ (Ext.new w7 _))
            clear HPR6 HB6 he7
            cases hno : ScriptP.nums ws.tail with
            | none =>
              rw [hno] at hp7
              obtain rfl := hp7
              have HF2 : Hid (parseR l = none) := Lib.hid (by rw [HF.out, hno])
              go_wp2_with (refine RowSt.wpList_put 43 _ _ rfl rfl rfl w.heap.size (cellsV (St.of 0) none 0 0) rfl rfl 43 _ HPM.out.1 (by kernel_rfl) rfl (cells_one _ _ _ _) ?_; intro w8 hb8 hc8)
              refine bodyPost_ret (v := .tuple #[.agg _, .bool false]) (RowSt.results_cell_tmp (p := 2) (q := 3) rfl _ _ w.heap.size 43 _ (0, 0) _ rfl hb8 Try.underlying43 rfl (by kernel_rfl)) rfl ?_
              refine ⟨HPM.out.2.chg hc8 fun i hi => by rw [hi]; exact Nat.le_refl _, ?_⟩
              rw [HF2.out]
            | some ns =>
              rw [hno] at hp7
              obtain ⟨A7, c7, rfl, ho7⟩ := hp7
              by_cases hlen : ns.length = 1
              · have hbx : (w7.alloc (.cells #[.int .i64 0, .int .i64 0, .int .i64 0, .int .i64 0, .int .i64 0, .int .i64 0, .int .i64 1, .int .i64 1, .int .i64 0, .int .i64 3, .int .i64 1, .int .i64 1, .int .i64 3, .int .i64 3, .int .i64 4, .int .i64 2, .int .i64 2, .int .i64 1] 3)).heap[wr.heap.size]? = some (.cells (cellsV (St.of (10 : Nat)) none 0 0) 43 (0, 0)) := (Ext.new w7 _).at_ HB7.out
                obtain ⟨y0, rfl⟩ := len1 hlen
                obtain ⟨g7, rfl, hc7⟩ := own_at ho7 (by simp)
                have v0 : (w7.alloc (.cells #[.int .i64 0, .int .i64 0, .int .i64 0, .int .i64 0, .int .i64 0, .int .i64 0, .int .i64 1, .int .i64 1, .int .i64 0, .int .i64 3, .int .i64 1, .int .i64 1, .int .i64 3, .int .i64 3, .int .i64 4, .int .i64 2, .int .i64 2, .int .i64 1] 3)).cell? ⟨g7, 0, none⟩ = some (.int .i64 (y0 : Int)) := (Ext.new w7 _).cell_ (hc7 0 _ rfl)
                clear hc7 ho7
                have hfill : parseR l = ScriptP.fill 10 [y0] := by rw [HF.out, hno]; rfl
                have HF2 : Hid (parseR l = some { St.of (10 : Nat) with node := ((y0 : Nat) : Int) }) := Lib.hid (by rw [hfill]; rfl)
                clear hfill
                have q3 := blk_cell (i := 3) hbx (Ext.refl _) rfl
                have f3 := Pack.free_of hbx 3
                have HBX := Lib.hid (set_blk (i := 3) hbx (.int .i64 ((y0 : Nat) : Int)))
                have HPX := Lib.hid (HPM.out.put1 3 (.int .i64 ((y0 : Nat) : Int)) hgr2 HPR.out.2.size)
                clear hbx
                go_wp2_with (first | (refine wpList_load_row rfl 43 _ rfl wr.heap.size rfl 43 (cellsV { St.of (10 : Nat) with node := ((y0 : Nat) : Int) } none 0 0) (0, 0) _ HBX.out Try.underlying43 rfl (by kernel_rfl) ?_) | (refine RowSt.wpList_put 43 _ _ rfl rfl rfl w.heap.size (cellsV { St.of (10 : Nat) with node := ((y0 : Nat) : Int) } none 0 0) rfl rfl 43 _ HPX.out.1 (by kernel_rfl) rfl (cells_one _ _ _ _) ?_; intro w8 hb8 hc8))
                refine bodyPost_ret (v := .tuple #[.agg _, .bool true]) (RowSt.results_cell_tmp (p := 2) (q := 3) rfl _ _ w.heap.size 43 _ (0, 0) _ rfl hb8 Try.underlying43 rfl (by kernel_rfl)) rfl ?_
                refine ⟨HPX.out.2.chg hc8 fun i hi => by rw [hi]; exact Nat.le_refl _, ?_⟩
                rw [HF2.out]
                exact ⟨none, 0, 0, rfl, rd_nil _ _ _, fun ad e => by cases e⟩
              · have HF2 : Hid (parseR l = none) := Lib.hid (by rw [HF.out, hno]; exact if_pos hlen)
                have hl1 : ((ns.length : Int) == 1) = false := by rw [beq_eq_false_iff_ne]; omega
                have hl2 : (ns.length == 1) = false := beq_eq_false_iff_ne.2 hlen
                clear ho7
                go_wp2_with (refine RowSt.wpList_put 43 _ _ rfl rfl rfl w.heap.size (cellsV (St.of 0) none 0 0) rfl rfl 43 _ HPM.out.1 (by kernel_rfl) rfl (cells_one _ _ _ _) ?_; intro w8 hb8 hc8)
                refine bodyPost_ret (v := .tuple #[.agg _, .bool false]) (RowSt.results_cell_tmp (p := 2) (q := 3) rfl _ _ w.heap.size 43 _ (0, 0) _ rfl hb8 Try.underlying43 rfl (by kernel_rfl)) rfl ?_
                refine ⟨HPM.out.2.chg hc8 fun i hi => by rw [hi]; exact Nat.le_refl _, ?_⟩
                rw [HF2.out]
          · go_wp2_with (refine RowSt.wpList_put 43 _ _ rfl rfl rfl wr.heap.size (cellsV (St.of _) none 0 0) rfl rfl 43 _ (at_new wr _) (by kernel_rfl) rfl (cells_one _ _ _ _) ?_; intro w6 hb6 hc6; have HPR6 := Lib.hid (HPR.out.put hc6 hgr2); have HB6 := Lib.hid hb6; have HC6 := Lib.hid hc6; clear hb6 hc6)
            refine (nums_calls _ _ _ ws.tail _ ⟨HTL.out, fun j x hx => ⟨_, rfl, (by rw [add1]; exact put_cell (HTC.out j x hx) HC6.out)⟩⟩ (by omega) HT.out).mono ?_
            rintro e w7 ⟨he7, hp7⟩
            have HPR7 := Lib.hid (HPR6.out.ext_ he7)
            have HB7 := Lib.hid (he7.at_ HB6.out)
            have HPM : Hid (PreR w (w7.alloc (.cells #[.int .i64 0, .int .i64 0, .int .i64 0, .int .i64 0, .int .i64 0, .int .i64 0, .int .i64 1, .int .i64 1, .int .i64 0, .int .i64 3, .int .i64 1, .int .i64 1, .int .i64 3, .int .i64 3, .int .i64 4, .int .i64 2, .int .i64 2, .int .i64 1] 3)) w.heap.size) := Lib.hid (HPR7.out.ext_ (Ext.new w7 _))
            clear HPR6 HB6 he7
            cases hno : ScriptP.nums ws.tail with
            | none =>
              rw [hno] at hp7
              obtain rfl := hp7
              have HF2 : Hid (parseR l = none) := Lib.hid (by rw [HF.out, hno])
              go_wp2_with (refine RowSt.wpList_put 43 _ _ rfl rfl rfl w.heap.size (cellsV (St.of 0) none 0 0) rfl rfl 43 _ HPM.out.1 (by kernel_rfl) rfl (cells_one _ _ _ _) ?_; intro w8 hb8 hc8)
              refine bodyPost_ret (v := .tuple #[.agg _, .bool false]) (RowSt.results_cell_tmp (p := 2) (q := 3) rfl _ _ w.heap.size 43 _ (0, 0) _ rfl hb8 Try.underlying43 rfl (by kernel_rfl)) rfl ?_
              refine ⟨HPM.out.2.chg hc8 fun i hi => by rw [hi]; exact Nat.le_refl _, ?_⟩
              rw [HF2.out]
            | some ns =>
              rw [hno] at hp7
              obtain ⟨A7, c7, rfl, ho7⟩ := hp7
              by_cases hlen : ns.length = 1
              · have hbx : (w7.alloc (.cells #[.int .i64 0, .int .i64 0, .int .i64 0, .int .i64 0, .int .i64 0, .int .i64 0, .int .i64 1, .int .i64 1, .int .i64 0, .int .i64 3, .int .i64 1, .int .i64 1, .int .i64 3, .int .i64 3, .int .i64 4, .int .i64 2, .int .i64 2, .int .i64 1] 3)).heap[wr.heap.size]? = some (.cells (cellsV (St.of (11 : Nat)) none 0 0) 43 (0, 0)) := (Ext.new w7 _).at_ HB7.out
                obtain ⟨y0, rfl⟩ := len1 hlen
                obtain ⟨g7, rfl, hc7⟩ := own_at ho7 (by simp)
                have v0 : (w7.alloc (.cells #[.int .i64 0, .int .i64 0, .int .i64 0, .int .i64 0, .int .i64 0, .int .i64 0, .int .i64 1, .int .i64 1, .int .i64 0, .int .i64 3, .int .i64 1, .int .i64 1, .int .i64 3, .int .i64 3, .int .i64 4, .int .i64 2, .int .i64 2, .int .i64 1] 3)).cell? ⟨g7, 0, none⟩ = some (.int .i64 (y0 : Int)) := (Ext.new w7 _).cell_ (hc7 0 _ rfl)
                clear hc7 ho7
                have hfill : parseR l = ScriptP.fill 11 [y0] := by rw [HF.out, hno]; rfl
                have HF2 : Hid (parseR l = some { St.of (11 : Nat) with node := ((y0 : Nat) : Int) }) := Lib.hid (by rw [hfill]; rfl)
                clear hfill
                have q3 := blk_cell (i := 3) hbx (Ext.refl _) rfl
                have f3 := Pack.free_of hbx 3
                have HBX := Lib.hid (set_blk (i := 3) hbx (.int .i64 ((y0 : Nat) : Int)))
                have HPX := Lib.hid (HPM.out.put1 3 (.int .i64 ((y0 : Nat) : Int)) hgr2 HPR.out.2.size)
                clear hbx
                go_wp2_with (first | (refine wpList_load_row rfl 43 _ rfl wr.heap.size rfl 43 (cellsV { St.of (11 : Nat) with node := ((y0 : Nat) : Int) } none 0 0) (0, 0) _ HBX.out Try.underlying43 rfl (by kernel_rfl) ?_) | (refine RowSt.wpList_put 43 _ _ rfl rfl rfl w.heap.size (cellsV { St.of (11 : Nat) with node := ((y0 : Nat) : Int) } none 0 0) rfl rfl 43 _ HPX.out.1 (by kernel_rfl) rfl (cells_one _ _ _ _) ?_; intro w8 hb8 hc8))
                refine bodyPost_ret (v := .tuple #[.agg _, .bool true]) (RowSt.results_cell_tmp (p := 2) (q := 3) rfl _ _ w.heap.size 43 _ (0, 0) _ rfl hb8 Try.underlying43 rfl (by kernel_rfl)) rfl ?_
                refine ⟨HPX.out.2.chg hc8 fun i hi => by rw [hi]; exact Nat.le_refl _, ?_⟩
                rw [HF2.out]
                exact ⟨none, 0, 0, rfl, rd_nil _ _ _, fun ad e => by cases e⟩
              · have HF2 : Hid (parseR l = none) := Lib.hid (by rw [HF.out, hno]; exact if_pos hlen)
                have hl1 : ((ns.length : Int) == 1) = false := by rw [beq_eq_false_iff_ne]; omega
                have hl2 : (ns.length == 1) = false := beq_eq_false_iff_ne.2 hlen
                clear ho7
                go_wp2_with (refine RowSt.wpList_put 43 _ _ rfl rfl rfl w.heap.size (cellsV (St.of 0) none 0 0) rfl rfl 43 _ HPM.out.1 (by kernel_rfl) rfl (cells_one _ _ _ _) ?_; intro w8 hb8 hc8)
                refine bodyPost_ret (v := .tuple #[.agg _, .bool false]) (RowSt.results_cell_tmp (p := 2) (q := 3) rfl _ _ w.heap.size 43 _ (0, 0) _ rfl hb8 Try.underlying43 rfl (by kernel_rfl)) rfl ?_
                refine ⟨HPM.out.2.chg hc8 fun i hi => by rw [hi]; exact Nat.le_refl _, ?_⟩
                rw [HF2.out]
          · go_wp2_with (refine RowSt.wpList_put 43 _ _ rfl rfl rfl wr.heap.size (cellsV (St.of _) none 0 0) rfl rfl 43 _ (at_new wr _) (by kernel_rfl) rfl (cells_one _ _ _ _) ?_; intro w6 hb6 hc6; have HPR6 := Lib.hid (HPR.out.put hc6 hgr2); have HB6 := Lib.hid hb6; have HC6 := Lib.hid hc6; clear hb6 hc6)
            refine (nums_calls _ _ _ ws.tail _ ⟨HTL.out, fun j x hx => ⟨_, rfl, (by rw [add1]; exact put_cell (HTC.out j x hx) HC6.out)⟩⟩ (by omega) HT.out).mono ?_
            rintro e w7 ⟨he7, hp7⟩
            have HPR7 := Lib.hid (HPR6.out.ext_ he7)
            have HB7 := Lib.hid (he7.at_ HB6.out)
            have HPM : Hid (PreR w (w7.alloc (.cells #[.int .i64 0, .int .i64 0, .int .i64 0, .int .i64 0, .int .i64 0, .int .i64 0, .int .i64 1, .int .i64 1, .int .i64 0, .int .i64 3, .int .i64 1, .int .i64 1, .int .i64 3, .int .i64 3, .int .i64 4, .int .i64 2, .int .i64 2, .int .i64 1] 3)) w.heap.size) := Lib.hid (HPR7.out.ext_ (Ext.new w7 _))
            clear HPR6 HB6 he7
            cases hno : ScriptP.nums ws.tail with
            | none =>
              rw [hno] at hp7
              obtain rfl := hp7
              have HF2 : Hid (parseR l = none) := Lib.hid (by rw [HF.out, hno])
              go_wp2_with (refine RowSt.wpList_put 43 _ _ rfl rfl rfl w.heap.size (cellsV (St.of 0) none 0 0) rfl rfl 43 _ HPM.out.1 (by kernel_rfl) rfl (cells_one _ _ _ _) ?_; intro w8 hb8 hc8)
              refine bodyPost_ret (v := .tuple #[.agg _, .bool false]) (RowSt.results_cell_tmp (p := 2) (q := 3) rfl _ _ w.heap.size 43 _ (0, 0) _ rfl hb8 Try.underlying43 rfl (by kernel_rfl)) rfl ?_
              refine ⟨HPM.out.2.chg hc8 fun i hi => by rw [hi]; exact Nat.le_refl _, ?_⟩
              rw [HF2.out]
            | some ns =>
              rw [hno] at hp7
              obtain ⟨A7, c7, rfl, ho7⟩ := hp7
              by_cases hlen : ns.length = 3
              · have hbx : (w7.alloc (.cells #[.int .i64 0, .int .i64 0, .int .i64 0, .int .i64 0, .int .i64 0, .int .i64 0, .int .i64 1, .int .i64 1, .int .i64 0, .int .i64 3, .int .i64 1, .int .i64 1, .int .i64 3, .int .i64 3, .int .i64 4, .int .i64 2, .int .i64 2, .int .i64 1] 3)).heap[wr.heap.size]? = some (.cells (cellsV (St.of (12 : Nat)) none 0 0) 43 (0, 0)) := (Ext.new w7 _).at_ HB7.out
                obtain ⟨y0, y1, y2, rfl⟩ := len3 hlen
                obtain ⟨g7, rfl, hc7⟩ := own_at ho7 (by simp)
                have v0 : (w7.alloc (.cells #[.int .i64 0, .int .i64 0, .int .i64 0, .int .i64 0, .int .i64 0, .int .i64 0, .int .i64 1, .int .i64 1, .int .i64 0, .int .i64 3, .int .i64 1, .int .i64 1, .int .i64 3, .int .i64 3, .int .i64 4, .int .i64 2, .int .i64 2, .int .i64 1] 3)).cell? ⟨g7, 0, none⟩ = some (.int .i64 (y0 : Int)) := (Ext.new w7 _).cell_ (hc7 0 _ rfl)
                have v1 : (w7.alloc (.cells #[.int .i64 0, .int .i64 0, .int .i64 0, .int .i64 0, .int .i64 0, .int .i64 0, .int .i64 1, .int .i64 1, .int .i64 0, .int .i64 3, .int .i64 1, .int .i64 1, .int .i64 3, .int .i64 3, .int .i64 4, .int .i64 2, .int .i64 2, .int .i64 1] 3)).cell? ⟨g7, 1, none⟩ = some (.int .i64 (y1 : Int)) := (Ext.new w7 _).cell_ (hc7 1 _ rfl)
                have v2 : (w7.alloc (.cells #[.int .i64 0, .int .i64 0, .int .i64 0, .int .i64 0, .int .i64 0, .int .i64 0, .int .i64 1, .int .i64 1, .int .i64 0, .int .i64 3, .int .i64 1, .int .i64 1, .int .i64 3, .int .i64 3, .int .i64 4, .int .i64 2, .int .i64 2, .int .i64 1] 3)).cell? ⟨g7, 2, none⟩ = some (.int .i64 (y2 : Int)) := (Ext.new w7 _).cell_ (hc7 2 _ rfl)
                clear hc7 ho7
                have hfill : parseR l = ScriptP.fill 12 [y0, y1, y2] := by rw [HF.out, hno]; rfl
                have HF2 : Hid (parseR l = some { St.of (12 : Nat) with node := ((y0 : Nat) : Int), a := ((y1 : Nat) : Int), b := ((y2 : Nat) : Int) }) := Lib.hid (by rw [hfill]; rfl)
                clear hfill
                go_wp2_with fail
                generalize (w7.alloc (.cells #[.int .i64 0, .int .i64 0, .int .i64 0, .int .i64 0, .int .i64 0, .int .i64 0, .int .i64 1, .int .i64 1, .int .i64 0, .int .i64 3, .int .i64 1, .int .i64 1, .int .i64 3, .int .i64 3, .int .i64 4, .int .i64 2, .int .i64 2, .int .i64 1] 3)) = wM at v0 v1 v2 hbx HPM ⊢
                have q3 := blk_cell (i := 3) hbx (Ext.refl _) rfl
                have f3 := Pack.free_of hbx 3
                have q4 := blk_cell (i := 4) hbx (Ext.refl _) rfl
                have f4 := Pack.free_of hbx 4
                have q5 := blk_cell (i := 5) hbx (Ext.refl _) rfl
                have f5 := Pack.free_of hbx 5
                have hbd : wM.drew.heap[wr.heap.size]? = some (.cells (cellsV (St.of (12 : Nat)) none 0 0) 43 (0, 0)) := hbx
                have HPD : PreR w wM.drew w.heap.size := HPM.out.ext_ (Ext.refl wM).drew
                have HBX := Lib.hid (set_blk (i := 5) (set_blk (i := 4) (set_blk (i := 3) hbd (.int .i64 ((y0 : Nat) : Int))) (.int .i64 ((y1 : Nat) : Int))) (.int .i64 ((y2 : Nat) : Int)))
                have HPX := Lib.hid (((HPD.put1 3 (.int .i64 ((y0 : Nat) : Int)) hgr2 HPR.out.2.size).put1 4 (.int .i64 ((y1 : Nat) : Int)) hgr2 HPR.out.2.size).put1 5 (.int .i64 ((y2 : Nat) : Int)) hgr2 HPR.out.2.size)
                clear hbx hbd HPD
                go_region
                go_wp2_with (first | (refine wpList_load_row rfl 43 _ rfl wr.heap.size rfl 43 (cellsV { St.of (12 : Nat) with node := ((y0 : Nat) : Int), a := ((y1 : Nat) : Int), b := ((y2 : Nat) : Int) } none 0 0) (0, 0) _ HBX.out Try.underlying43 rfl (by kernel_rfl) ?_) | (refine RowSt.wpList_put 43 _ _ rfl rfl rfl w.heap.size (cellsV { St.of (12 : Nat) with node := ((y0 : Nat) : Int), a := ((y1 : Nat) : Int), b := ((y2 : Nat) : Int) } none 0 0) rfl rfl 43 _ HPX.out.1 (by kernel_rfl) rfl (cells_one _ _ _ _) ?_; intro w8 hb8 hc8))
                refine bodyPost_ret (v := .tuple #[.agg _, .bool true]) (RowSt.results_cell_tmp (p := 2) (q := 3) rfl _ _ w.heap.size 43 _ (0, 0) _ rfl hb8 Try.underlying43 rfl (by kernel_rfl)) rfl ?_
                refine ⟨HPX.out.2.chg hc8 fun i hi => by rw [hi]; exact Nat.le_refl _, ?_⟩
                rw [HF2.out]
                exact ⟨none, 0, 0, rfl, rd_nil _ _ _, fun ad e => by cases e⟩
              · have HF2 : Hid (parseR l = none) := Lib.hid (by rw [HF.out, hno]; exact if_pos hlen)
                have hl1 : ((ns.length : Int) == 3) = false := by rw [beq_eq_false_iff_ne]; omega
                have hl2 : (ns.length == 3) = false := beq_eq_false_iff_ne.2 hlen
                clear ho7
                go_wp2_with (refine RowSt.wpList_put 43 _ _ rfl rfl rfl w.heap.size (cellsV (St.of 0) none 0 0) rfl rfl 43 _ HPM.out.1 (by kernel_rfl) rfl (cells_one _ _ _ _) ?_; intro w8 hb8 hc8)
                refine bodyPost_ret (v := .tuple #[.agg _, .bool false]) (RowSt.results_cell_tmp (p := 2) (q := 3) rfl _ _ w.heap.size 43 _ (0, 0) _ rfl hb8 Try.underlying43 rfl (by kernel_rfl)) rfl ?_
                refine ⟨HPM.out.2.chg hc8 fun i hi => by rw [hi]; exact Nat.le_refl _, ?_⟩
                rw [HF2.out]
          · go_wp2_with (refine RowSt.wpList_put 43 _ _ rfl rfl rfl wr.heap.size (cellsV (St.of _) none 0 0) rfl rfl 43 _ (at_new wr _) (by kernel_rfl) rfl (cells_one _ _ _ _) ?_; intro w6 hb6 hc6; have HPR6 := Lib.hid (HPR.out.put hc6 hgr2); have HB6 := Lib.hid hb6; have HC6 := Lib.hid hc6; clear hb6 hc6)
            refine (nums_calls _ _ _ ws.tail _ ⟨HTL.out, fun j x hx => ⟨_, rfl, (by rw [add1]; exact put_cell (HTC.out j x hx) HC6.out)⟩⟩ (by omega) HT.out).mono ?_
            rintro e w7 ⟨he7, hp7⟩
            have HPR7 := Lib.hid (HPR6.out.ext_ he7)
            have HB7 := Lib.hid (he7.at_ HB6.out)
            have HPM : Hid (PreR w (w7.alloc (.cells #[.int .i64 0, .int .i64 0, .int .i64 0, .int .i64 0, .int .i64 0, .int .i64 0, .int .i64 1, .int .i64 1, .int .i64 0, .int .i64 3, .int .i64 1, .int .i64 1, .int .i64 3, .int .i64 3, .int .i64 4, .int .i64 2, .int .i64 2, .int .i64 1] 3)) w.heap.size) := Lib.hid (HPR7.out.ext_ (Ext.new w7 _))
            clear HPR6 HB6 he7
            cases hno : ScriptP.nums ws.tail with
            | none =>
              rw [hno] at hp7
              obtain rfl := hp7
              have HF2 : Hid (parseR l = none) := Lib.hid (by rw [HF.out, hno])
              go_wp2_with (refine RowSt.wpList_put 43 _ _ rfl rfl rfl w.heap.size (cellsV (St.of 0) none 0 0) rfl rfl 43 _ HPM.out.1 (by kernel_rfl) rfl (cells_one _ _ _ _) ?_; intro w8 hb8 hc8)
              refine bodyPost_ret (v := .tuple #[.agg _, .bool false]) (RowSt.results_cell_tmp (p := 2) (q := 3) rfl _ _ w.heap.size 43 _ (0, 0) _ rfl hb8 Try.underlying43 rfl (by kernel_rfl)) rfl ?_
              refine ⟨HPM.out.2.chg hc8 fun i hi => by rw [hi]; exact Nat.le_refl _, ?_⟩
              rw [HF2.out]
            | some ns =>
              rw [hno] at hp7
              obtain ⟨A7, c7, rfl, ho7⟩ := hp7
              by_cases hlen : ns.length = 3
              · have hbx : (w7.alloc (.cells #[.int .i64 0, .int .i64 0, .int .i64 0, .int .i64 0, .int .i64 0, .int .i64 0, .int .i64 1, .int .i64 1, .int .i64 0, .int .i64 3, .int .i64 1, .int .i64 1, .int .i64 3, .int .i64 3, .int .i64 4, .int .i64 2, .int .i64 2, .int .i64 1] 3)).heap[wr.heap.size]? = some (.cells (cellsV (St.of (13 : Nat)) none 0 0) 43 (0, 0)) := (Ext.new w7 _).at_ HB7.out
                obtain ⟨y0, y1, y2, rfl⟩ := len3 hlen
                obtain ⟨g7, rfl, hc7⟩ := own_at ho7 (by simp)
                have v0 : (w7.alloc (.cells #[.int .i64 0, .int .i64 0, .int .i64 0, .int .i64 0, .int .i64 0, .int .i64 0, .int .i64 1, .int .i64 1, .int .i64 0, .int .i64 3, .int .i64 1, .int .i64 1, .int .i64 3, .int .i64 3, .int .i64 4, .int .i64 2, .int .i64 2, .int .i64 1] 3)).cell? ⟨g7, 0, none⟩ = some (.int .i64 (y0 : Int)) := (Ext.new w7 _).cell_ (hc7 0 _ rfl)
                have v1 : (w7.alloc (.cells #[.int .i64 0, .int .i64 0, .int .i64 0, .int .i64 0, .int .i64 0, .int .i64 0, .int .i64 1, .int .i64 1, .int .i64 0, .int .i64 3, .int .i64 1, .int .i64 1, .int .i64 3, .int .i64 3, .int .i64 4, .int .i64 2, .int .i64 2, .int .i64 1] 3)).cell? ⟨g7, 1, none⟩ = some (.int .i64 (y1 : Int)) := (Ext.new w7 _).cell_ (hc7 1 _ rfl)
                have v2 : (w7.alloc (.cells #[.int .i64 0, .int .i64 0, .int .i64 0, .int .i64 0, .int .i64 0, .int .i64 0, .int .i64 1, .int .i64 1, .int .i64 0, .int .i64 3, .int .i64 1, .int .i64 1, .int .i64 3, .int .i64 3, .int .i64 4, .int .i64 2, .int .i64 2, .int .i64 1] 3)).cell? ⟨g7, 2, none⟩ = some (.int .i64 (y2 : Int)) := (Ext.new w7 _).cell_ (hc7 2 _ rfl)
                clear hc7 ho7
                have hfill : parseR l = ScriptP.fill 13 [y0, y1, y2] := by rw [HF.out, hno]; rfl
                have HF2 : Hid (parseR l = some { St.of (13 : Nat) with node := ((y0 : Nat) : Int), a := ((y1 : Nat) : Int), b := ((y2 : Nat) : Int) }) := Lib.hid (by rw [hfill]; rfl)
                clear hfill
                go_wp2_with fail
                generalize (w7.alloc (.cells #[.int .i64 0, .int .i64 0, .int .i64 0, .int .i64 0, .int .i64 0, .int .i64 0, .int .i64 1, .int .i64 1, .int .i64 0, .int .i64 3, .int .i64 1, .int .i64 1, .int .i64 3, .int .i64 3, .int .i64 4, .int .i64 2, .int .i64 2, .int .i64 1] 3)) = wM at v0 v1 v2 hbx HPM ⊢
                have q3 := blk_cell (i := 3) hbx (Ext.refl _) rfl
                have f3 := Pack.free_of hbx 3
                have q4 := blk_cell (i := 4) hbx (Ext.refl _) rfl
                have f4 := Pack.free_of hbx 4
                have q5 := blk_cell (i := 5) hbx (Ext.refl _) rfl
                have f5 := Pack.free_of hbx 5
                have hbd : wM.drew.heap[wr.heap.size]? = some (.cells (cellsV (St.of (13 : Nat)) none 0 0) 43 (0, 0)) := hbx
                have HPD : PreR w wM.drew w.heap.size := HPM.out.ext_ (Ext.refl wM).drew
                have HBX := Lib.hid (set_blk (i := 5) (set_blk (i := 4) (set_blk (i := 3) hbd (.int .i64 ((y0 : Nat) : Int))) (.int .i64 ((y1 : Nat) : Int))) (.int .i64 ((y2 : Nat) : Int)))
                have HPX := Lib.hid (((HPD.put1 3 (.int .i64 ((y0 : Nat) : Int)) hgr2 HPR.out.2.size).put1 4 (.int .i64 ((y1 : Nat) : Int)) hgr2 HPR.out.2.size).put1 5 (.int .i64 ((y2 : Nat) : Int)) hgr2 HPR.out.2.size)
                clear hbx hbd HPD
                go_region
                go_wp2_with (first | (refine wpList_load_row rfl 43 _ rfl wr.heap.size rfl 43 (cellsV { St.of (13 : Nat) with node := ((y0 : Nat) : Int), a := ((y1 : Nat) : Int), b := ((y2 : Nat) : Int) } none 0 0) (0, 0) _ HBX.out Try.underlying43 rfl (by kernel_rfl) ?_) | (refine RowSt.wpList_put 43 _ _ rfl rfl rfl w.heap.size (cellsV { St.of (13 : Nat) with node := ((y0 : Nat) : Int), a := ((y1 : Nat) : Int), b := ((y2 : Nat) : Int) } none 0 0) rfl rfl 43 _ HPX.out.1 (by kernel_rfl) rfl (cells_one _ _ _ _) ?_; intro w8 hb8 hc8))
                refine bodyPost_ret (v := .tuple #[.agg _, .bool true]) (RowSt.results_cell_tmp (p := 2) (q := 3) rfl _ _ w.heap.size 43 _ (0, 0) _ rfl hb8 Try.underlying43 rfl (by kernel_rfl)) rfl ?_
                refine ⟨HPX.out.2.chg hc8 fun i hi => by rw [hi]; exact Nat.le_refl _, ?_⟩
                rw [HF2.out]
                exact ⟨none, 0, 0, rfl, rd_nil _ _ _, fun ad e => by cases e⟩
              · have HF2 : Hid (parseR l = none) := Lib.hid (by rw [HF.out, hno]; exact if_pos hlen)
                have hl1 : ((ns.length : Int) == 3) = false := by rw [beq_eq_false_iff_ne]; omega
                have hl2 : (ns.length == 3) = false := beq_eq_false_iff_ne.2 hlen
                clear ho7
                go_wp2_with (refine RowSt.wpList_put 43 _ _ rfl rfl rfl w.heap.size (cellsV (St.of 0) none 0 0) rfl rfl 43 _ HPM.out.1 (by kernel_rfl) rfl (cells_one _ _ _ _) ?_; intro w8 hb8 hc8)
                refine bodyPost_ret (v := .tuple #[.agg _, .bool false]) (RowSt.results_cell_tmp (p := 2) (q := 3) rfl _ _ w.heap.size 43 _ (0, 0) _ rfl hb8 Try.underlying43 rfl (by kernel_rfl)) rfl ?_
                refine ⟨HPM.out.2.chg hc8 fun i hi => by rw [hi]; exact Nat.le_refl _, ?_⟩
                rw [HF2.out]
          · go_wp2_with (refine RowSt.wpList_put 43 _ _ rfl rfl rfl wr.heap.size (cellsV (St.of _) none 0 0) rfl rfl 43 _ (at_new wr _) (by kernel_rfl) rfl (cells_one _ _ _ _) ?_; intro w6 hb6 hc6; have HPR6 := Lib.hid (HPR.out.put hc6 hgr2); have HB6 := Lib.hid hb6; have HC6 := Lib.hid hc6; clear hb6 hc6)
            refine (nums_calls _ _ _ ws.tail _ ⟨HTL.out, fun j x hx => ⟨_, rfl, (by rw [add1]; exact put_cell (HTC.out j x hx) HC6.out)⟩⟩ (by omega) HT.out).mono ?_
            rintro e w7 ⟨he7, hp7⟩
            have HPR7 := Lib.hid (HPR6.out.ext_ he7)
            have HB7 := Lib.hid (he7.at_ HB6.out)
            have HPM : Hid (PreR w (w7.alloc (.cells #[.int .i64 0, .int .i64 0, .int .i64 0, .int .i64 0, .int .i64 0, .int .i64 0, .int .i64 1, .int .i64 1, .int .i64 0, .int .i64 3, .int .i64 1, .int .i64 1, .int .i64 3, .int .i64 3, .int .i64 4, .int .i64 2, .int .i64 2, .int .i64 1] 3)) w.heap.size) := Lib.hid (HPR7.out.ext_ (Ext.new w7 _))
            clear HPR6 HB6 he7
            cases hno : ScriptP.nums ws.tail with
            | none =>
              rw [hno] at hp7
              obtain rfl := hp7
              have HF2 : Hid (parseR l = none) := Lib.hid (by rw [HF.out, hno])
              go_wp2_with (refine RowSt.wpList_put 43 _ _ rfl rfl rfl w.heap.size (cellsV (St.of 0) none 0 0) rfl rfl 43 _ HPM.out.1 (by kernel_rfl) rfl (cells_one _ _ _ _) ?_; intro w8 hb8 hc8)
              refine bodyPost_ret (v := .tuple #[.agg _, .bool false]) (RowSt.results_cell_tmp (p := 2) (q := 3) rfl _ _ w.heap.size 43 _ (0, 0) _ rfl hb8 Try.underlying43 rfl (by kernel_rfl)) rfl ?_
              refine ⟨HPM.out.2.chg hc8 fun i hi => by rw [hi]; exact Nat.le_refl _, ?_⟩
              rw [HF2.out]
            | some ns =>
              rw [hno] at hp7
              obtain ⟨A7, c7, rfl, ho7⟩ := hp7
              by_cases hlen : ns.length = 4
              · have hbx : (w7.alloc (.cells #[.int .i64 0, .int .i64 0, .int .i64 0, .int .i64 0, .int .i64 0, .int .i64 0, .int .i64 1, .int .i64 1, .int .i64 0, .int .i64 3, .int .i64 1, .int .i64 1, .int .i64 3, .int .i64 3, .int .i64 4, .int .i64 2, .int .i64 2, .int .i64 1] 3)).heap[wr.heap.size]? = some (.cells (cellsV (St.of (14 : Nat)) none 0 0) 43 (0, 0)) := (Ext.new w7 _).at_ HB7.out
                obtain ⟨y0, y1, y2, y3, rfl⟩ := len4 hlen
                obtain ⟨g7, rfl, hc7⟩ := own_at ho7 (by simp)
                have hg7 : ¬ g7 = wr.heap.size := fun e => ho7.ne HB7.out (by decide) (by rw [e]; rfl)
                have hg8 : ¬ wr.heap.size = g7 := fun e => hg7 e.symm
                have v0 : (w7.alloc (.cells #[.int .i64 0, .int .i64 0, .int .i64 0, .int .i64 0, .int .i64 0, .int .i64 0, .int .i64 1, .int .i64 1, .int .i64 0, .int .i64 3, .int .i64 1, .int .i64 1, .int .i64 3, .int .i64 3, .int .i64 4, .int .i64 2, .int .i64 2, .int .i64 1] 3)).cell? ⟨g7, 0, none⟩ = some (.int .i64 (y0 : Int)) := (Ext.new w7 _).cell_ (hc7 0 _ rfl)
                have v1 : (w7.alloc (.cells #[.int .i64 0, .int .i64 0, .int .i64 0, .int .i64 0, .int .i64 0, .int .i64 0, .int .i64 1, .int .i64 1, .int .i64 0, .int .i64 3, .int .i64 1, .int .i64 1, .int .i64 3, .int .i64 3, .int .i64 4, .int .i64 2, .int .i64 2, .int .i64 1] 3)).cell? ⟨g7, 1, none⟩ = some (.int .i64 (y1 : Int)) := (Ext.new w7 _).cell_ (hc7 1 _ rfl)
                have v2 : (w7.alloc (.cells #[.int .i64 0, .int .i64 0, .int .i64 0, .int .i64 0, .int .i64 0, .int .i64 0, .int .i64 1, .int .i64 1, .int .i64 0, .int .i64 3, .int .i64 1, .int .i64 1, .int .i64 3, .int .i64 3, .int .i64 4, .int .i64 2, .int .i64 2, .int .i64 1] 3)).cell? ⟨g7, 2, none⟩ = some (.int .i64 (y2 : Int)) := (Ext.new w7 _).cell_ (hc7 2 _ rfl)
                have v3 : (w7.alloc (.cells #[.int .i64 0, .int .i64 0, .int .i64 0, .int .i64 0, .int .i64 0, .int .i64 0, .int .i64 1, .int .i64 1, .int .i64 0, .int .i64 3, .int .i64 1, .int .i64 1, .int .i64 3, .int .i64 3, .int .i64 4, .int .i64 2, .int .i64 2, .int .i64 1] 3)).cell? ⟨g7, 3, none⟩ = some (.int .i64 (y3 : Int)) := (Ext.new w7 _).cell_ (hc7 3 _ rfl)
                clear hc7 ho7
                have hfill : parseR l = ScriptP.fill 14 [y0, y1, y2, y3] := by rw [HF.out, hno]; rfl
                by_cases h255 : 255 < y3
                · have HF2 : Hid (parseR l = none) := Lib.hid (by rw [hfill]; show (if 255 < y3 then none else _) = none; rw [if_pos h255])
                  have h255i : (255 : Int) < y3 := by omega
                  go_wp2_with (refine RowSt.wpList_put 43 _ _ rfl rfl rfl w.heap.size (cellsV (St.of 0) none 0 0) rfl rfl 43 _ HPM.out.1 (by kernel_rfl) rfl (cells_one _ _ _ _) ?_; intro w8 hb8 hc8)
                  refine bodyPost_ret (v := .tuple #[.agg _, .bool false]) (RowSt.results_cell_tmp (p := 2) (q := 3) rfl _ _ w.heap.size 43 _ (0, 0) _ rfl hb8 Try.underlying43 rfl (by kernel_rfl)) rfl ?_
                  refine ⟨HPM.out.2.chg hc8 fun i hi => by rw [hi]; exact Nat.le_refl _, ?_⟩
                  rw [HF2.out]
                have HF2 : Hid (parseR l = some { St.of (14 : Nat) with node := ((y0 : Nat) : Int), a := ((y1 : Nat) : Int), b := ((y2 : Nat) : Int), bits := ((y3 % 256 : Nat) : Int) }) := Lib.hid (by rw [hfill]; show (if 255 < y3 then none else _) = _; rw [if_neg h255]; rfl)
                have h255i : (y3 : Int) ≤ 255 := by omega
                have h255b : ¬ (255 : Int) < y3 := by omega
                have hmb : IntKind.u8.wrap (y3 : Int) = ((y3 % 256 : Nat) : Int) := by simp [IntKind.wrap, IntKind.bits, IntKind.signed]
                clear hfill
                go_wp2_with fail
                generalize (w7.alloc (.cells #[.int .i64 0, .int .i64 0, .int .i64 0, .int .i64 0, .int .i64 0, .int .i64 0, .int .i64 1, .int .i64 1, .int .i64 0, .int .i64 3, .int .i64 1, .int .i64 1, .int .i64 3, .int .i64 3, .int .i64 4, .int .i64 2, .int .i64 2, .int .i64 1] 3)) = wM at v0 v1 v2 v3 hbx HPM ⊢
                have q3 := blk_cell (i := 3) hbx (Ext.refl _) rfl
                have f3 := Pack.free_of hbx 3
                have q4 := blk_cell (i := 4) hbx (Ext.refl _) rfl
                have f4 := Pack.free_of hbx 4
                have q5 := blk_cell (i := 5) hbx (Ext.refl _) rfl
                have f5 := Pack.free_of hbx 5
                have q6 := blk_cell (i := 6) hbx (Ext.refl _) rfl
                have f6 := Pack.free_of hbx 6
                have hbd : wM.drew.heap[wr.heap.size]? = some (.cells (cellsV (St.of (14 : Nat)) none 0 0) 43 (0, 0)) := hbx
                have HPD : PreR w wM.drew w.heap.size := HPM.out.ext_ (Ext.refl wM).drew
                have HBX := Lib.hid (set_blk (i := 6) (set_blk (i := 5) (set_blk (i := 4) (set_blk (i := 3) hbd (.int .i64 ((y0 : Nat) : Int))) (.int .i64 ((y1 : Nat) : Int))) (.int .i64 ((y2 : Nat) : Int))) (.int .u8 ((y3 % 256 : Nat) : Int)))
                have HPX := Lib.hid ((((HPD.put1 3 (.int .i64 ((y0 : Nat) : Int)) hgr2 HPR.out.2.size).put1 4 (.int .i64 ((y1 : Nat) : Int)) hgr2 HPR.out.2.size).put1 5 (.int .i64 ((y2 : Nat) : Int)) hgr2 HPR.out.2.size).put1 6 (.int .u8 ((y3 % 256 : Nat) : Int)) hgr2 HPR.out.2.size)
                clear hbx hbd HPD
                go_region
                go_wp2_with (first | (refine wpList_load_row rfl 43 _ rfl wr.heap.size rfl 43 (cellsV { St.of (14 : Nat) with node := ((y0 : Nat) : Int), a := ((y1 : Nat) : Int), b := ((y2 : Nat) : Int), bits := ((y3 % 256 : Nat) : Int) } none 0 0) (0, 0) _ HBX.out Try.underlying43 rfl (by kernel_rfl) ?_) | (refine RowSt.wpList_put 43 _ _ rfl rfl rfl w.heap.size (cellsV { St.of (14 : Nat) with node := ((y0 : Nat) : Int), a := ((y1 : Nat) : Int), b := ((y2 : Nat) : Int), bits := ((y3 % 256 : Nat) : Int) } none 0 0) rfl rfl 43 _ HPX.out.1 (by kernel_rfl) rfl (cells_one _ _ _ _) ?_; intro w8 hb8 hc8))
                refine bodyPost_ret (v := .tuple #[.agg _, .bool true]) (RowSt.results_cell_tmp (p := 2) (q := 3) rfl _ _ w.heap.size 43 _ (0, 0) _ rfl hb8 Try.underlying43 rfl (by kernel_rfl)) rfl ?_
                refine ⟨HPX.out.2.chg hc8 fun i hi => by rw [hi]; exact Nat.le_refl _, ?_⟩
                rw [HF2.out]
                exact ⟨none, 0, 0, rfl, rd_nil _ _ _, fun ad e => by cases e⟩
              · have HF2 : Hid (parseR l = none) := Lib.hid (by rw [HF.out, hno]; exact if_pos hlen)
                have hl1 : ((ns.length : Int) == 4) = false := by rw [beq_eq_false_iff_ne]; omega
                have hl2 : (ns.length == 4) = false := beq_eq_false_iff_ne.2 hlen
                clear ho7
                go_wp2_with (refine RowSt.wpList_put 43 _ _ rfl rfl rfl w.heap.size (cellsV (St.of 0) none 0 0) rfl rfl 43 _ HPM.out.1 (by kernel_rfl) rfl (cells_one _ _ _ _) ?_; intro w8 hb8 hc8)
                refine bodyPost_ret (v := .tuple #[.agg _, .bool false]) (RowSt.results_cell_tmp (p := 2) (q := 3) rfl _ _ w.heap.size 43 _ (0, 0) _ rfl hb8 Try.underlying43 rfl (by kernel_rfl)) rfl ?_
                refine ⟨HPM.out.2.chg hc8 fun i hi => by rw [hi]; exact Nat.le_refl _, ?_⟩
                rw [HF2.out]
          · go_wp2_with (refine RowSt.wpList_put 43 _ _ rfl rfl rfl wr.heap.size (cellsV (St.of _) none 0 0) rfl rfl 43 _ (at_new wr _) (by kernel_rfl) rfl (cells_one _ _ _ _) ?_; intro w6 hb6 hc6; have HPR6 := Lib.hid (HPR.out.put hc6 hgr2); have HB6 := Lib.hid hb6; have HC6 := Lib.hid hc6; clear hb6 hc6)
            refine (nums_calls _ _ _ ws.tail _ ⟨HTL.out, fun j x hx => ⟨_, rfl, (by rw [add1]; exact put_cell (HTC.out j x hx) HC6.out)⟩⟩ (by omega) HT.out).mono ?_
            rintro e w7 ⟨he7, hp7⟩
            have HPR7 := Lib.hid (HPR6.out.ext_ he7)
            have HB7 := Lib.hid (he7.at_ HB6.out)
            have HPM : Hid (PreR w (w7.alloc (.cells #[.int .i64 0, .int .i64 0, .int .i64 0, .int .i64 0, .int .i64 0, .int .i64 0, .int .i64 1, .int .i64 1, .int .i64 0, .int .i64 3, .int .i64 1, .int .i64 1, .int .i64 3, .int .i64 3, .int .i64 4, .int .i64 2, .int .i64 2, .int .i64 1] 3)) w.heap.size) := Lib.hid (HPR7.out.ext_ (Ext.new w7 _))
            clear HPR6 HB6 he7
            cases hno : ScriptP.nums ws.tail with
            | none =>
              rw [hno] at hp7
              obtain rfl := hp7
              have HF2 : Hid (parseR l = none) := Lib.hid (by rw [HF.out, hno])
              go_wp2_with (refine RowSt.wpList_put 43 _ _ rfl rfl rfl w.heap.size (cellsV (St.of 0) none 0 0) rfl rfl 43 _ HPM.out.1 (by kernel_rfl) rfl (cells_one _ _ _ _) ?_; intro w8 hb8 hc8)
              refine bodyPost_ret (v := .tuple #[.agg _, .bool false]) (RowSt.results_cell_tmp (p := 2) (q := 3) rfl _ _ w.heap.size 43 _ (0, 0) _ rfl hb8 Try.underlying43 rfl (by kernel_rfl)) rfl ?_
              refine ⟨HPM.out.2.chg hc8 fun i hi => by rw [hi]; exact Nat.le_refl _, ?_⟩
              rw [HF2.out]
            | some ns =>
              rw [hno] at hp7
              obtain ⟨A7, c7, rfl, ho7⟩ := hp7
              by_cases hlen : ns.length = 2
              · have hbx : (w7.alloc (.cells #[.int .i64 0, .int .i64 0, .int .i64 0, .int .i64 0, .int .i64 0, .int .i64 0, .int .i64 1, .int .i64 1, .int .i64 0, .int .i64 3, .int .i64 1, .int .i64 1, .int .i64 3, .int .i64 3, .int .i64 4, .int .i64 2, .int .i64 2, .int .i64 1] 3)).heap[wr.heap.size]? = some (.cells (cellsV (St.of (15 : Nat)) none 0 0) 43 (0, 0)) := (Ext.new w7 _).at_ HB7.out
                obtain ⟨y0, y1, rfl⟩ := len2 hlen
                obtain ⟨g7, rfl, hc7⟩ := own_at ho7 (by simp)
                have v0 : (w7.alloc (.cells #[.int .i64 0, .int .i64 0, .int .i64 0, .int .i64 0, .int .i64 0, .int .i64 0, .int .i64 1, .int .i64 1, .int .i64 0, .int .i64 3, .int .i64 1, .int .i64 1, .int .i64 3, .int .i64 3, .int .i64 4, .int .i64 2, .int .i64 2, .int .i64 1] 3)).cell? ⟨g7, 0, none⟩ = some (.int .i64 (y0 : Int)) := (Ext.new w7 _).cell_ (hc7 0 _ rfl)
                have v1 : (w7.alloc (.cells #[.int .i64 0, .int .i64 0, .int .i64 0, .int .i64 0, .int .i64 0, .int .i64 0, .int .i64 1, .int .i64 1, .int .i64 0, .int .i64 3, .int .i64 1, .int .i64 1, .int .i64 3, .int .i64 3, .int .i64 4, .int .i64 2, .int .i64 2, .int .i64 1] 3)).cell? ⟨g7, 1, none⟩ = some (.int .i64 (y1 : Int)) := (Ext.new w7 _).cell_ (hc7 1 _ rfl)
                clear hc7 ho7
                have hfill : parseR l = ScriptP.fill 15 [y0, y1] := by rw [HF.out, hno]; rfl
                have HF2 : Hid (parseR l = some { St.of (15 : Nat) with node := ((y0 : Nat) : Int), a := ((y1 : Nat) : Int) }) := Lib.hid (by rw [hfill]; rfl)
                clear hfill
                go_wp2_with fail
                generalize (w7.alloc (.cells #[.int .i64 0, .int .i64 0, .int .i64 0, .int .i64 0, .int .i64 0, .int .i64 0, .int .i64 1, .int .i64 1, .int .i64 0, .int .i64 3, .int .i64 1, .int .i64 1, .int .i64 3, .int .i64 3, .int .i64 4, .int .i64 2, .int .i64 2, .int .i64 1] 3)) = wM at v0 v1 hbx HPM ⊢
                have q3 := blk_cell (i := 3) hbx (Ext.refl _) rfl
                have f3 := Pack.free_of hbx 3
                have q4 := blk_cell (i := 4) hbx (Ext.refl _) rfl
                have f4 := Pack.free_of hbx 4
                have hbd : wM.drew.heap[wr.heap.size]? = some (.cells (cellsV (St.of (15 : Nat)) none 0 0) 43 (0, 0)) := hbx
                have HPD : PreR w wM.drew w.heap.size := HPM.out.ext_ (Ext.refl wM).drew
                have HBX := Lib.hid (set_blk (i := 4) (set_blk (i := 3) hbd (.int .i64 ((y0 : Nat) : Int))) (.int .i64 ((y1 : Nat) : Int)))
                have HPX := Lib.hid ((HPD.put1 3 (.int .i64 ((y0 : Nat) : Int)) hgr2 HPR.out.2.size).put1 4 (.int .i64 ((y1 : Nat) : Int)) hgr2 HPR.out.2.size)
                clear hbx hbd HPD
                go_region
                go_wp2_with (first | (refine wpList_load_row rfl 43 _ rfl wr.heap.size rfl 43 (cellsV { St.of (15 : Nat) with node := ((y0 : Nat) : Int), a := ((y1 : Nat) : Int) } none 0 0) (0, 0) _ HBX.out Try.underlying43 rfl (by kernel_rfl) ?_) | (refine RowSt.wpList_put 43 _ _ rfl rfl rfl w.heap.size (cellsV { St.of (15 : Nat) with node := ((y0 : Nat) : Int), a := ((y1 : Nat) : Int) } none 0 0) rfl rfl 43 _ HPX.out.1 (by kernel_rfl) rfl (cells_one _ _ _ _) ?_; intro w8 hb8 hc8))
                refine bodyPost_ret (v := .tuple #[.agg _, .bool true]) (RowSt.results_cell_tmp (p := 2) (q := 3) rfl _ _ w.heap.size 43 _ (0, 0) _ rfl hb8 Try.underlying43 rfl (by kernel_rfl)) rfl ?_
                refine ⟨HPX.out.2.chg hc8 fun i hi => by rw [hi]; exact Nat.le_refl _, ?_⟩
                rw [HF2.out]
                exact ⟨none, 0, 0, rfl, rd_nil _ _ _, fun ad e => by cases e⟩
              · have HF2 : Hid (parseR l = none) := Lib.hid (by rw [HF.out, hno]; exact if_pos hlen)
                have hl1 : ((ns.length : Int) == 2) = false := by rw [beq_eq_false_iff_ne]; omega
                have hl2 : (ns.length == 2) = false := beq_eq_false_iff_ne.2 hlen
                clear ho7
                go_wp2_with (refine RowSt.wpList_put 43 _ _ rfl rfl rfl w.heap.size (cellsV (St.of 0) none 0 0) rfl rfl 43 _ HPM.out.1 (by kernel_rfl) rfl (cells_one _ _ _ _) ?_; intro w8 hb8 hc8)
                refine bodyPost_ret (v := .tuple #[.agg _, .bool false]) (RowSt.results_cell_tmp (p := 2) (q := 3) rfl _ _ w.heap.size 43 _ (0, 0) _ rfl hb8 Try.underlying43 rfl (by kernel_rfl)) rfl ?_
                refine ⟨HPM.out.2.chg hc8 fun i hi => by rw [hi]; exact Nat.le_refl _, ?_⟩
                rw [HF2.out]
          · go_wp2_with (refine RowSt.wpList_put 43 _ _ rfl rfl rfl wr.heap.size (cellsV (St.of _) none 0 0) rfl rfl 43 _ (at_new wr _) (by kernel_rfl) rfl (cells_one _ _ _ _) ?_; intro w6 hb6 hc6; have HPR6 := Lib.hid (HPR.out.put hc6 hgr2); have HB6 := Lib.hid hb6; have HC6 := Lib.hid hc6; clear hb6 hc6)
            refine (nums_calls _ _ _ ws.tail _ ⟨HTL.out, fun j x hx => ⟨_, rfl, (by rw [add1]; exact put_cell (HTC.out j x hx) HC6.out)⟩⟩ (by omega) HT.out).mono ?_
            rintro e w7 ⟨he7, hp7⟩
            have HPR7 := Lib.hid (HPR6.out.ext_ he7)
            have HB7 := Lib.hid (he7.at_ HB6.out)
            have HPM : Hid (PreR w (w7.alloc (.cells #[.int .i64 0, .int .i64 0, .int .i64 0, .int .i64 0, .int .i64 0, .int .i64 0, .int .i64 1, .int .i64 1, .int .i64 0, .int .i64 3, .int .i64 1, .int .i64 1, .int .i64 3, .int .i64 3, .int .i64 4, .int .i64 2, .int .i64 2, .int .i64 1] 3)) w.heap.size) := Lib.hid (HPR7.out.ext_ (Ext.new w7 _))
            clear HPR6 HB6 he7
            cases hno : ScriptP.nums ws.tail with
            | none =>
              rw [hno] at hp7
              obtain rfl := hp7
              have HF2 : Hid (parseR l = none) := Lib.hid (by rw [HF.out, hno])
              go_wp2_with (refine RowSt.wpList_put 43 _ _ rfl rfl rfl w.heap.size (cellsV (St.of 0) none 0 0) rfl rfl 43 _ HPM.out.1 (by kernel_rfl) rfl (cells_one _ _ _ _) ?_; intro w8 hb8 hc8)
              refine bodyPost_ret (v := .tuple #[.agg _, .bool false]) (RowSt.results_cell_tmp (p := 2) (q := 3) rfl _ _ w.heap.size 43 _ (0, 0) _ rfl hb8 Try.underlying43 rfl (by kernel_rfl)) rfl ?_
              refine ⟨HPM.out.2.chg hc8 fun i hi => by rw [hi]; exact Nat.le_refl _, ?_⟩
              rw [HF2.out]
            | some ns =>
              rw [hno] at hp7
              obtain ⟨A7, c7, rfl, ho7⟩ := hp7
              by_cases hlen : ns.length = 2
              · have hbx : (w7.alloc (.cells #[.int .i64 0, .int .i64 0, .int .i64 0, .int .i64 0, .int .i64 0, .int .i64 0, .int .i64 1, .int .i64 1, .int .i64 0, .int .i64 3, .int .i64 1, .int .i64 1, .int .i64 3, .int .i64 3, .int .i64 4, .int .i64 2, .int .i64 2, .int .i64 1] 3)).heap[wr.heap.size]? = some (.cells (cellsV (St.of (16 : Nat)) none 0 0) 43 (0, 0)) := (Ext.new w7 _).at_ HB7.out
                obtain ⟨y0, y1, rfl⟩ := len2 hlen
                obtain ⟨g7, rfl, hc7⟩ := own_at ho7 (by simp)
                have v0 : (w7.alloc (.cells #[.int .i64 0, .int .i64 0, .int .i64 0, .int .i64 0, .int .i64 0, .int .i64 0, .int .i64 1, .int .i64 1, .int .i64 0, .int .i64 3, .int .i64 1, .int .i64 1, .int .i64 3, .int .i64 3, .int .i64 4, .int .i64 2, .int .i64 2, .int .i64 1] 3)).cell? ⟨g7, 0, none⟩ = some (.int .i64 (y0 : Int)) := (Ext.new w7 _).cell_ (hc7 0 _ rfl)
                have v1 : (w7.alloc (.cells #[.int .i64 0, .int .i64 0, .int .i64 0, .int .i64 0, .int .i64 0, .int .i64 0, .int .i64 1, .int .i64 1, .int .i64 0, .int .i64 3, .int .i64 1, .int .i64 1, .int .i64 3, .int .i64 3, .int .i64 4, .int .i64 2, .int .i64 2, .int .i64 1] 3)).cell? ⟨g7, 1, none⟩ = some (.int .i64 (y1 : Int)) := (Ext.new w7 _).cell_ (hc7 1 _ rfl)
                clear hc7 ho7
                have hfill : parseR l = ScriptP.fill 16 [y0, y1] := by rw [HF.out, hno]; rfl
                have HF2 : Hid (parseR l = some { St.of (16 : Nat) with a := ((y0 : Nat) : Int), b := ((y1 : Nat) : Int) }) := Lib.hid (by rw [hfill]; rfl)
                clear hfill
                go_wp2_with fail
                generalize (w7.alloc (.cells #[.int .i64 0, .int .i64 0, .int .i64 0, .int .i64 0, .int .i64 0, .int .i64 0, .int .i64 1, .int .i64 1, .int .i64 0, .int .i64 3, .int .i64 1, .int .i64 1, .int .i64 3, .int .i64 3, .int .i64 4, .int .i64 2, .int .i64 2, .int .i64 1] 3)) = wM at v0 v1 hbx HPM ⊢
                have q4 := blk_cell (i := 4) hbx (Ext.refl _) rfl
                have f4 := Pack.free_of hbx 4
                have q5 := blk_cell (i := 5) hbx (Ext.refl _) rfl
                have f5 := Pack.free_of hbx 5
                have hbd : wM.drew.heap[wr.heap.size]? = some (.cells (cellsV (St.of (16 : Nat)) none 0 0) 43 (0, 0)) := hbx
                have HPD : PreR w wM.drew w.heap.size := HPM.out.ext_ (Ext.refl wM).drew
                have HBX := Lib.hid (set_blk (i := 5) (set_blk (i := 4) hbd (.int .i64 ((y0 : Nat) : Int))) (.int .i64 ((y1 : Nat) : Int)))
                have HPX := Lib.hid ((HPD.put1 4 (.int .i64 ((y0 : Nat) : Int)) hgr2 HPR.out.2.size).put1 5 (.int .i64 ((y1 : Nat) : Int)) hgr2 HPR.out.2.size)
                clear hbx hbd HPD
                go_region
                go_wp2_with (first | (refine wpList_load_row rfl 43 _ rfl wr.heap.size rfl 43 (cellsV { St.of (16 : Nat) with a := ((y0 : Nat) : Int), b := ((y1 : Nat) : Int) } none 0 0) (0, 0) _ HBX.out Try.underlying43 rfl (by kernel_rfl) ?_) | (refine RowSt.wpList_put 43 _ _ rfl rfl rfl w.heap.size (cellsV { St.of (16 : Nat) with a := ((y0 : Nat) : Int), b := ((y1 : Nat) : Int) } none 0 0) rfl rfl 43 _ HPX.out.1 (by kernel_rfl) rfl (cells_one _ _ _ _) ?_; intro w8 hb8 hc8))
                refine bodyPost_ret (v := .tuple #[.agg _, .bool true]) (RowSt.results_cell_tmp (p := 2) (q := 3) rfl _ _ w.heap.size 43 _ (0, 0) _ rfl hb8 Try.underlying43 rfl (by kernel_rfl)) rfl ?_
                refine ⟨HPX.out.2.chg hc8 fun i hi => by rw [hi]; exact Nat.le_refl _, ?_⟩
                rw [HF2.out]
                exact ⟨none, 0, 0, rfl, rd_nil _ _ _, fun ad e => by cases e⟩
              · have HF2 : Hid (parseR l = none) := Lib.hid (by rw [HF.out, hno]; exact if_pos hlen)
                have hl1 : ((ns.length : Int) == 2) = false := by rw [beq_eq_false_iff_ne]; omega
                have hl2 : (ns.length == 2) = false := beq_eq_false_iff_ne.2 hlen
                clear ho7
                go_wp2_with (refine RowSt.wpList_put 43 _ _ rfl rfl rfl w.heap.size (cellsV (St.of 0) none 0 0) rfl rfl 43 _ HPM.out.1 (by kernel_rfl) rfl (cells_one _ _ _ _) ?_; intro w8 hb8 hc8)
                refine bodyPost_ret (v := .tuple #[.agg _, .bool false]) (RowSt.results_cell_tmp (p := 2) (q := 3) rfl _ _ w.heap.size 43 _ (0, 0) _ rfl hb8 Try.underlying43 rfl (by kernel_rfl)) rfl ?_
                refine ⟨HPM.out.2.chg hc8 fun i hi => by rw [hi]; exact Nat.le_refl _, ?_⟩
                rw [HF2.out]
          · go_wp2_with (refine RowSt.wpList_put 43 _ _ rfl rfl rfl wr.heap.size (cellsV (St.of _) none 0 0) rfl rfl 43 _ (at_new wr _) (by kernel_rfl) rfl (cells_one _ _ _ _) ?_; intro w6 hb6 hc6; have HPR6 := Lib.hid (HPR.out.put hc6 hgr2); have HB6 := Lib.hid hb6; have HC6 := Lib.hid hc6; clear hb6 hc6)
            refine (nums_calls _ _ _ ws.tail _ ⟨HTL.out, fun j x hx => ⟨_, rfl, (by rw [add1]; exact put_cell (HTC.out j x hx) HC6.out)⟩⟩ (by omega) HT.out).mono ?_
            rintro e w7 ⟨he7, hp7⟩
            have HPR7 := Lib.hid (HPR6.out.ext_ he7)
            have HB7 := Lib.hid (he7.at_ HB6.out)
            have HPM : Hid (PreR w (w7.alloc (.cells #[.int .i64 0, .int .i64 0, .int .i64 0, .int .i64 0, .int .i64 0, .int .i64 0, .int .i64 1, .int .i64 1, .int .i64 0, .int .i64 3, .int .i64 1, .int .i64 1, .int .i64 3, .int .i64 3, .int .i64 4, .int .i64 2, .int .i64 2, .int .i64 1] 3)) w.heap.size) := Lib.hid (HPR7.out.ext_ (Ext.new w7 _))
            clear HPR6 HB6 he7
            cases hno : ScriptP.nums ws.tail with
            | none =>
              rw [hno] at hp7
              obtain rfl := hp7
              have HF2 : Hid (parseR l = none) := Lib.hid (by rw [HF.out, hno])
              go_wp2_with (refine RowSt.wpList_put 43 _ _ rfl rfl rfl w.heap.size (cellsV (St.of 0) none 0 0) rfl rfl 43 _ HPM.out.1 (by kernel_rfl) rfl (cells_one _ _ _ _) ?_; intro w8 hb8 hc8)
              refine bodyPost_ret (v := .tuple #[.agg _, .bool false]) (RowSt.results_cell_tmp (p := 2) (q := 3) rfl _ _ w.heap.size 43 _ (0, 0) _ rfl hb8 Try.underlying43 rfl (by kernel_rfl)) rfl ?_
              refine ⟨HPM.out.2.chg hc8 fun i hi => by rw [hi]; exact Nat.le_refl _, ?_⟩
              rw [HF2.out]
            | some ns =>
              rw [hno] at hp7
              obtain ⟨A7, c7, rfl, ho7⟩ := hp7
              by_cases hlen : ns.length = 1
              · have hbx : (w7.alloc (.cells #[.int .i64 0, .int .i64 0, .int .i64 0, .int .i64 0, .int .i64 0, .int .i64 0, .int .i64 1, .int .i64 1, .int .i64 0, .int .i64 3, .int .i64 1, .int .i64 1, .int .i64 3, .int .i64 3, .int .i64 4, .int .i64 2, .int .i64 2, .int .i64 1] 3)).heap[wr.heap.size]? = some (.cells (cellsV (St.of (17 : Nat)) none 0 0) 43 (0, 0)) := (Ext.new w7 _).at_ HB7.out
                obtain ⟨y0, rfl⟩ := len1 hlen
                obtain ⟨g7, rfl, hc7⟩ := own_at ho7 (by simp)
                have v0 : (w7.alloc (.cells #[.int .i64 0, .int .i64 0, .int .i64 0, .int .i64 0, .int .i64 0, .int .i64 0, .int .i64 1, .int .i64 1, .int .i64 0, .int .i64 3, .int .i64 1, .int .i64 1, .int .i64 3, .int .i64 3, .int .i64 4, .int .i64 2, .int .i64 2, .int .i64 1] 3)).cell? ⟨g7, 0, none⟩ = some (.int .i64 (y0 : Int)) := (Ext.new w7 _).cell_ (hc7 0 _ rfl)
                clear hc7 ho7
                have hfill : parseR l = ScriptP.fill 17 [y0] := by rw [HF.out, hno]; rfl
                have HF2 : Hid (parseR l = some { St.of (17 : Nat) with a := ((y0 : Nat) : Int) }) := Lib.hid (by rw [hfill]; rfl)
                clear hfill
                have q4 := blk_cell (i := 4) hbx (Ext.refl _) rfl
                have f4 := Pack.free_of hbx 4
                have HBX := Lib.hid (set_blk (i := 4) hbx (.int .i64 ((y0 : Nat) : Int)))
                have HPX := Lib.hid (HPM.out.put1 4 (.int .i64 ((y0 : Nat) : Int)) hgr2 HPR.out.2.size)
                clear hbx
                go_wp2_with (first | (refine wpList_load_row rfl 43 _ rfl wr.heap.size rfl 43 (cellsV { St.of (17 : Nat) with a := ((y0 : Nat) : Int) } none 0 0) (0, 0) _ HBX.out Try.underlying43 rfl (by kernel_rfl) ?_) | (refine RowSt.wpList_put 43 _ _ rfl rfl rfl w.heap.size (cellsV { St.of (17 : Nat) with a := ((y0 : Nat) : Int) } none 0 0) rfl rfl 43 _ HPX.out.1 (by kernel_rfl) rfl (cells_one _ _ _ _) ?_; intro w8 hb8 hc8))
                refine bodyPost_ret (v := .tuple #[.agg _, .bool true]) (RowSt.results_cell_tmp (p := 2) (q := 3) rfl _ _ w.heap.size 43 _ (0, 0) _ rfl hb8 Try.underlying43 rfl (by kernel_rfl)) rfl ?_
                refine ⟨HPX.out.2.chg hc8 fun i hi => by rw [hi]; exact Nat.le_refl _, ?_⟩
                rw [HF2.out]
                exact ⟨none, 0, 0, rfl, rd_nil _ _ _, fun ad e => by cases e⟩
              · have HF2 : Hid (parseR l = none) := Lib.hid (by rw [HF.out, hno]; exact if_pos hlen)
                have hl1 : ((ns.length : Int) == 1) = false := by rw [beq_eq_false_iff_ne]; omega
                have hl2 : (ns.length == 1) = false := beq_eq_false_iff_ne.2 hlen
                clear ho7
                go_wp2_with (refine RowSt.wpList_put 43 _ _ rfl rfl rfl w.heap.size (cellsV (St.of 0) none 0 0) rfl rfl 43 _ HPM.out.1 (by kernel_rfl) rfl (cells_one _ _ _ _) ?_; intro w8 hb8 hc8)
                refine bodyPost_ret (v := .tuple #[.agg _, .bool false]) (RowSt.results_cell_tmp (p := 2) (q := 3) rfl _ _ w.heap.size 43 _ (0, 0) _ rfl hb8 Try.underlying43 rfl (by kernel_rfl)) rfl ?_
                refine ⟨HPM.out.2.chg hc8 fun i hi => by rw [hi]; exact Nat.le_refl _, ?_⟩
                rw [HF2.out]
end Go.Proofs.Ytfhgjopoohfhjaa.Script
