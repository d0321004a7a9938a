/- Opening a vault, walked. -/
import Derived.Test.YtipmkddcdnbihaaVaultI
import Derived.Deep.LoopGhost
namespace Go.Proofs.Ytipmkddcdnbihaa.Vault
open Go.RowKit Base Step MapIs Vec
open VaultP (Sh shOf nameB cellOf readV Whole found)
open DiskP (readC)
theorem shOf_ok {xs : List Int} (h : Le.U8s xs) (hl : 12 ≤ xs.length) : (shOf xs).Ok := by
  have b1 := Le.of_take_bound (n := xs.length) h rfl (j := 4) (by omega)
  have b2 := Le.of_take_bound (n := (xs.drop 4).length) (drop_u8 h 4) rfl (j := 2) (by rw [List.length_drop]; omega)
  have b3 := Le.of_take_bound (n := (xs.drop 6).length) (drop_u8 h 6) rfl (j := 2) (by rw [List.length_drop]; omega)
  have b4 := Le.of_take_bound (n := (xs.drop 8).length) (drop_u8 h 8) rfl (j := 4) (by rw [List.length_drop]; omega)
  exact ⟨by show 0 ≤ Le.of _; omega, by show Le.of _ < _; omega, by show 0 ≤ Le.of _; omega, by show Le.of _ < _; omega, by show 0 ≤ Le.of _; omega, by show Le.of _ < _; omega, by show 0 ≤ Le.of _; omega, by show Le.of _ < _; omega⟩
theorem read_ok {xs : List Int} (h : Le.U8s xs) {s : Sh} {b : List Int} (hr : readV xs = some (s, b)) : s.Ok := by
  by_cases hw : Whole xs
  · rw [VaultP.readV_yes hw] at hr
    simp only [Option.some.injEq, Prod.mk.injEq] at hr
    obtain ⟨rfl, _⟩ := hr
    exact shOf_ok (fun x hx => h x (List.mem_of_mem_drop (List.mem_of_mem_take hx))) hw.load
  · rw [VaultP.readV_no hw] at hr
    cases hr
theorem found_app : ∀ (L : List (List Int)) (c : Nat) (l : List (Sh × Nat)) (M : List (List Int)), found c (L ++ M) l = found (c + L.length) M (found c L l)
  | [], c, l, M => by simp [found]
  | x :: L, c, l, M => by
    simp only [List.cons_append, found, List.length_cons]
    rw [found_app L (c + 1) _ M, show c + 1 + L.length = c + (L.length + 1) by omega]
/-- What is found in the first cells of a disk. -/
noncomputable def foundN (cells : List (List Int)) (loose : List (Int × List Int)) (i : Nat) : List (Sh × Nat) := found 0 ((List.range i).map (readC cells loose)) []
theorem foundN_succ (cells : List (List Int)) (loose : List (Int × List Int)) (i : Nat) : foundN cells loose (i + 1) = (match readV (readC cells loose i) with
    | none => foundN cells loose i
    | some (s, _) => if s ∈ (foundN cells loose i).map (·.1) then foundN cells loose i else foundN cells loose i ++ [(s, i)]) := by
  unfold foundN
  rw [List.range_succ, List.map_append, found_app]
  simp only [List.length_map, List.length_range, Nat.zero_add, List.map_cons, List.map_nil, found]
  cases readV (readC cells loose i) with
  | none => rfl
  | some p => rfl
theorem foundN_len (cells : List (List Int)) (loose : List (Int × List Int)) : ∀ i, (foundN cells loose i).length ≤ i
  | 0 => Nat.le_refl _
  | i + 1 => by
    have := foundN_len cells loose i
    rw [foundN_succ]
    split
    · omega
    · split
      · omega
      · simp
        omega
theorem read_u8 {w : World} {S : Nat → Prop} {gd : Nat} {size : Int} {cells : List (List Int)} {loose : List (Int × List Int)} {syncs : Int} (hd : Disk.Disk w S gd size cells loose syncs) {c : Nat} (hc : c < cells.length) (hx : loose.length ≤ 1099511627776) : ∀ x ∈ readC cells loose c, (Lit.int .u8 x).wf = true := by
  obtain ⟨e, w', _, ⟨_, A, n, c', _, _, hh⟩, _⟩ := (Disk.read_calls S gd size cells loose syncs _ hd c hc hx) []
  exact hh
set_option maxRecDepth 100000 in
set_option maxHeartbeats 2000000 in
theorem open_calls (S : Nat → Prop) (gd : Nat) (size : Int) (cells : List (List Int)) (loose : List (Int × List Int)) (syncs : Int) (w : World) (hd : Disk.Disk w S gd size cells loose syncs) (hx : loose.length ≤ 1099511627776) :
    Calls Try.prog 54 #[.pointer (some ⟨gd, 0, none⟩)] w fun e w' => ∃ gv gm, e = .returned (.tuple #[.pointer (some ⟨gv, 0, none⟩), .int .i64 0]) ∧ Ext w w' ∧ VaultAt w' gv gm gd (foundN cells loose cells.length) ∧ w.heap.size ≤ gv ∧ w.heap.size ≤ gm ∧ gv < w'.heap.size ∧ gm < w'.heap.size := by
  have HD := Lib.hid hd
  have hlen := hd.len_le.2.2.2.1
  clear hd
  obtain ⟨n, hn⟩ : ∃ n, n = cells.length := ⟨_, rfl⟩
  have HN := Lib.hid hn
  rw [← hn] at hlen
  clear hn
  have hmm := @run_makeMap Try.prog
  go_enter Try.func54, Try.ntmps54
  go_upto_region 4 with fail
  have h0 : VaultAt ((w.alloc (.map #[] 0)).alloc (.cells #[.pointer (some ⟨gd, 0, none⟩), .map (some w.heap.size)] 119)) (w.heap.size + 1) w.heap.size gd [] :=
    ⟨by have := at_new (w.alloc (.map #[] 0)) (.cells #[.pointer (some ⟨gd, 0, none⟩), .map (some w.heap.size)] 119); simpa using this, (mp_made w).ext (Ext.new _ _), by simp⟩
  have H0 := Lib.hid h0
  have E0 := Lib.hid (((Ext.refl w).alloc (.map #[] 0)).alloc (.cells #[.pointer (some ⟨gd, 0, none⟩), .map (some w.heap.size)] 119))
  have hz0 : ((w.alloc (.map #[] 0)).alloc (.cells #[.pointer (some ⟨gd, 0, none⟩), .map (some w.heap.size)] 119)).heap.size = w.heap.size + 2 := by simp
  generalize (w.alloc (.map #[] 0)).alloc (.cells #[.pointer (some ⟨gd, 0, none⟩), .map (some w.heap.size)] 119) = w1 at *
  clear h0 hmm
  have HZ0 := Lib.hid hz0
  clear hz0
  go_wp2_with fail
  refine (Disk.len_calls S gd size cells loose syncs w1 (HD.out.ext E0.out)).mono ?_
  rintro e w2 ⟨rfl, he2⟩
  rw [← HN.out]
  have E2 := Lib.hid (E0.out.trans he2)
  have H2 := Lib.hid (H0.out.ext he2)
  have hz2 := he2.size
  rw [HZ0.out] at hz2
  clear he2
  go_wp2_with fail
  go_loopg [7, 8, 9, 10, 11, 12, 25] n (fun g _ _ _ _ _ _ i wr => ∃ j : Nat, j ≤ n ∧ g = n - j ∧ i = .int .i64 j ∧ Hid (Ext w wr ∧ VaultAt wr (w.heap.size + 1) w.heap.size gd (foundN cells loose j) ∧ w.heap.size + 2 ≤ wr.heap.size))
  case atStart => exact ⟨0, Nat.zero_le _, rfl, rfl, Lib.hid ⟨E2.out, H2.out, hz2⟩⟩
  case round =>
    obtain ⟨j, hj, rfl, rfl, hrel⟩ := hrel
    obtain ⟨hex, hva, hsz⟩ := hrel.out
    have HX := Lib.hid hex
    have HV := Lib.hid hva
    clear hrel hex hva
    by_cases hjn : j < n
    · have hjc : j < cells.length := by rw [← HN.out]; exact hjn
      go_wp2_with fail
      refine (Disk.read_calls S gd size cells loose syncs wr (HD.out.ext HX.out) j hjc hx).mono ?_
      rintro e w3 ⟨he3, A3, n3, c3, rfl, ho3, hw3⟩
      obtain ⟨xs, hxs⟩ : ∃ xs, xs = readC cells loose j := ⟨_, rfl⟩
      have hle := readC_le HD.out j
      rw [← hxs] at ho3 hw3 hle
      have HXS := Lib.hid hxs
      clear hxs
      have hl3 : xs.length = n3 := by have := ho3.row.1; simpa [nums] using this
      have HU := Lib.hid (show Le.U8s xs from fun x hx => wf_u8 (hw3 x hx))
      have HR3 := Lib.hid (ho3.rd hw3)
      have HC3 := Lib.hid ho3.cap
      have hn3 : n3 ≤ 60000 := by omega
      have HX3 := Lib.hid (HX.out.trans he3)
      have HV3 := Lib.hid (HV.out.ext he3)
      have hs3 := he3.size
      clear he3 ho3 hw3 hle hl3
      go_wp2_with fail
      refine (vread_calls A3 n3 c3 xs w3 HR3.out HC3.out.1 HC3.out.2 hn3).mono ?_
      rintro e w4 ⟨he4, h4⟩
      have HX4 := Lib.hid (HX3.out.trans he4)
      have HV4 := Lib.hid (HV3.out.ext he4)
      have hs4 := he4.size
      clear he4
      rcases h4 with ⟨hno, r, _, hr, rfl⟩ | ⟨t, bs, A4, c4, hyes, rfl, _, _⟩
      · have HNO := Lib.hid (show foundN cells loose (j + 1) = foundN cells loose j by rw [foundN_succ, ← HXS.out, hno])
        have hr0 : (r != 0) = true := by rcases hr with rfl | rfl <;> rfl
        clear hno hr
        go_wp2_with fail
        go_roundg (n - (j + 1))
        case measure => omega
        case rel =>
          refine ⟨j + 1, by omega, rfl, by first | rfl | go_num, Lib.hid ⟨HX4.out.trans (by first | exact Ext.new _ _ | exact Ext.refl _), ?_, by first | (simp; omega) | omega⟩⟩
          rw [HNO.out]
          first
            | exact HV4.out.ext (Ext.new _ _)
            | exact HV4.out
      · have HT := Lib.hid (read_ok HU.out hyes)
        go_upto_region 10 with fail
        have hbt := at_new w4 (.cells #[.int .u32 t.o, .int .u16 t.st, .int .u16 t.sl, .int .u32 t.g] 111)
        have HX5 := Lib.hid (HX4.out.alloc (.cells #[.int .u32 t.o, .int .u16 t.st, .int .u16 t.sl, .int .u32 t.g] 111))
        have HV5 := Lib.hid (HV4.out.ext (Ext.new w4 (.cells #[.int .u32 t.o, .int .u16 t.st, .int .u16 t.sl, .int .u32 t.g] 111)))
        have hs5 : w4.heap.size ≤ (w4.alloc (.cells #[.int .u32 t.o, .int .u16 t.st, .int .u16 t.sl, .int .u32 t.g] 111)).heap.size := by simp
        generalize w4.alloc (.cells #[.int .u32 t.o, .int .u16 t.st, .int .u16 t.sl, .int .u32 t.g] 111) = w5 at *
        have HB := Lib.hid hbt
        have hv : ∀ W, Ext w5.drew W → W.cell? ⟨w.heap.size + 1, 1, none⟩ = some (.map (some w.heap.size)) := fun W hW => blk_cell HV5.out.at_ (drew_ext hW) rfl
        have c0 : ∀ W, Ext w5.drew W → W.cell? ⟨w4.heap.size, 0, none⟩ = some (.int .u32 t.o) := fun W hW => blk_cell hbt (drew_ext hW) rfl
        have c1 : ∀ W, Ext w5.drew W → W.cell? ⟨w4.heap.size, 1, none⟩ = some (.int .u16 t.st) := fun W hW => blk_cell hbt (drew_ext hW) rfl
        have c2 : ∀ W, Ext w5.drew W → W.cell? ⟨w4.heap.size, 2, none⟩ = some (.int .u16 t.sl) := fun W hW => blk_cell hbt (drew_ext hW) rfl
        have c3 : ∀ W, Ext w5.drew W → W.cell? ⟨w4.heap.size, 3, none⟩ = some (.int .u32 t.g) := fun W hW => blk_cell hbt (drew_ext hW) rfl
        clear hbt
        by_cases hm : t ∈ (foundN cells loose j).map (·.1)
        · have HNO := Lib.hid (show foundN cells loose (j + 1) = foundN cells loose j by rw [foundN_succ, ← HXS.out, hyes]; simp only [if_pos hm])
          obtain ⟨⟨t', c⟩, hp, hps⟩ := List.mem_map.1 hm
          have hps : t' = t := hps
          subst hps
          have hL : ∀ W, Ext w5.drew W → (Instr.lookup 117 (.map (some w.heap.size)) (shV t') true).run Try.prog W = .ok (.tuple #[.int .i64 c, .bool true]) W := fun W hW => ((HV5.out.ext (drew_ext hW)).hit (c := c) hp).1
          clear hm hyes hp
          refine Lex.wp_region_u [0, 1, 2, 3, 4, 5, 6, 7, 8, 9, 10] [] [] (by kernel_rfl) (by kernel_rfl) (by repeat (first | exact Lex.st_nil | refine Lex.st_cons (by first | exact Lex.nums_st | exact Lex.const_st | exact Lex.such_st | exact Lex.row_st | exact Lex.rowE_st | exact Lex.litR_st | assumption) ?_)) ?_; simp only [Lex.pick, List.getElem?_cons_succ, List.getElem?_cons_zero, List.map_nil]
          repeat (first | (refine Lex.lexU_skip (by rfl) ?_; simp only [Act.put, List.setIfInBounds_toArray, List.set_cons_zero, List.set_cons_succ]) | (refine Lex.lexU_still (by rfl) (by rfl) (by first | exact Base.Ext.refl | exact Lex.Fill.refl) ?_; apply Exists.intro; refine ⟨fun W hW => ?_, ?_⟩; (have hE := Lex.ext_of_cls hW.1; have hE2 := Lex.ext_drew hE; clear hW; go_simp; try with_reducible rfl); simp only [Act.put, List.setIfInBounds_toArray, List.set_cons_zero, List.set_cons_succ]))
          refine Lex.lexU_nil (fun W hW => ?_)
          have hE := Lib.hid (Lex.ext_drew hW.1)
          clear hW hL hv c0 c1 c2 c3
          have hs6 : w5.heap.size ≤ W.heap.size := hE.out.size
          refine Lex.onlyN_intro ?_
          go_wp2_with fail
          go_roundg (n - (j + 1))
          case measure => omega
          case rel =>
            refine ⟨j + 1, by omega, rfl, by first | rfl | go_num, Lib.hid ⟨HX5.out.trans hE.out, ?_, by omega⟩⟩
            rw [HNO.out]
            exact HV5.out.ext hE.out
        · have HNO := Lib.hid (show foundN cells loose (j + 1) = foundN cells loose j ++ [(t, j)] by rw [foundN_succ, ← HXS.out, hyes]; simp only [if_neg hm])
          have HM := Lib.hid hm
          have hL : ∀ W, Ext w5.drew W → (Instr.lookup 117 (.map (some w.heap.size)) (shV t) true).run Try.prog W = .ok (.tuple #[.int .i64 0, .bool false]) W := fun W hW => (HV5.out.ext (drew_ext hW)).miss HT.out HM.out
          clear hm hyes
          refine Lex.wp_region_u [0, 1, 2, 3, 4, 5, 6, 7, 8, 9, 10] [] [] (by kernel_rfl) (by kernel_rfl) (by repeat (first | exact Lex.st_nil | refine Lex.st_cons (by first | exact Lex.nums_st | exact Lex.const_st | exact Lex.such_st | exact Lex.row_st | exact Lex.rowE_st | exact Lex.litR_st | assumption) ?_)) ?_; simp only [Lex.pick, List.getElem?_cons_succ, List.getElem?_cons_zero, List.map_nil]
          repeat (first | (refine Lex.lexU_skip (by rfl) ?_; simp only [Act.put, List.setIfInBounds_toArray, List.set_cons_zero, List.set_cons_succ]) | (refine Lex.lexU_still (by rfl) (by rfl) (by first | exact Base.Ext.refl | exact Lex.Fill.refl) ?_; apply Exists.intro; refine ⟨fun W hW => ?_, ?_⟩; (have hE := Lex.ext_of_cls hW.1; have hE2 := Lex.ext_drew hE; clear hW; go_simp; try with_reducible rfl); simp only [Act.put, List.setIfInBounds_toArray, List.set_cons_zero, List.set_cons_succ]))
          refine Lex.lexU_nil (fun W hW => ?_)
          have hE := Lib.hid (Lex.ext_drew hW.1)
          clear hW hL hv c0 c1 c2 c3
          have hs6 : w5.heap.size ≤ W.heap.size := hE.out.size
          have HB6 := hE.out.at_ HB.out
          refine Lex.onlyN_intro ?_
          have HV6 := Lib.hid (HV5.out.ext hE.out)
          have HX6 := Lib.hid (HX5.out.trans hE.out)
          have hv : ∀ W', Ext W.drew W' → W'.cell? ⟨w.heap.size + 1, 1, none⟩ = some (.map (some w.heap.size)) := fun W' hW => blk_cell HV6.out.at_ (drew_ext hW) rfl
          have c0 : ∀ W', Ext W.drew W' → W'.cell? ⟨w4.heap.size, 0, none⟩ = some (.int .u32 t.o) := fun W' hW => blk_cell HB6 (drew_ext hW) rfl
          have c1 : ∀ W', Ext W.drew W' → W'.cell? ⟨w4.heap.size, 1, none⟩ = some (.int .u16 t.st) := fun W' hW => blk_cell HB6 (drew_ext hW) rfl
          have c2 : ∀ W', Ext W.drew W' → W'.cell? ⟨w4.heap.size, 2, none⟩ = some (.int .u16 t.sl) := fun W' hW => blk_cell HB6 (drew_ext hW) rfl
          have c3 : ∀ W', Ext W.drew W' → W'.cell? ⟨w4.heap.size, 3, none⟩ = some (.int .u32 t.g) := fun W' hW => blk_cell HB6 (drew_ext hW) rfl
          clear HB6
          go_upto_region 12 with fail
          refine Lex.wp_region_u [0, 1, 2, 3, 4, 5] [6] [] (by kernel_rfl) (by kernel_rfl) (by repeat (first | exact Lex.st_nil | refine Lex.st_cons (by first | exact Lex.nums_st | exact Lex.const_st | exact Lex.such_st | exact Lex.row_st | exact Lex.rowE_st | exact Lex.litR_st | assumption) ?_)) ?_; simp only [Lex.pick, List.getElem?_cons_succ, List.getElem?_cons_zero, List.map_cons, List.map_nil]
          repeat (first | (refine Lex.lexU_skip (by rfl) ?_; simp only [Act.put, List.setIfInBounds_toArray, List.set_cons_zero, List.set_cons_succ]) | (refine Lex.lexU_still (by rfl) (by rfl) (by first | exact Base.Ext.refl | exact Lex.Fill.refl) ?_; apply Exists.intro; refine ⟨fun W hW => ?_, ?_⟩; (have hE := Lex.ext_of_cls hW.1; have hE2 := Lex.ext_drew hE; clear hW; go_simp; try with_reducible rfl); simp only [Act.put, List.setIfInBounds_toArray, List.set_cons_zero, List.set_cons_succ]))
          refine Lex.lexU_nil (fun W7 hW => ?_)
          have hE7 := Lib.hid (Lex.ext_drew hW.1)
          clear hW hv c0 c1 c2 c3
          have hs7 : W.heap.size ≤ W7.heap.size := hE7.out.size
          obtain ⟨kl, hkl⟩ := key_of HT.out
          have hmem : shV t ∉ (ents (foundN cells loose j)).map (·.1) := fun k => HM.out (ents_mem.1 k)
          have hfl := foundN_len cells loose j
          refine wpList_put_mp (key := shV t) (c := (j : Int)) (HV6.out.ext hE7.out).mp shard_keyed Try.underlying117 Try.underlying3 (by rw [ents_len]; simp only [maxLen]; omega) rfl _ _ _ rfl rfl rfl rfl hkl hmem (by simp [Lit.wf, IntKind.min, IntKind.max, IntKind.bits, IntKind.signed]; omega) ?_
          intro w8 hmp hc8
          have HMP := Lib.hid hmp
          have HC8 := Lib.hid hc8
          clear hmp hc8
          have hs8 : W7.heap.size ≤ w8.heap.size := HC8.out.size
          refine Lex.onlyN_intro ?_
          go_wp2_with fail
          go_roundg (n - (j + 1))
          case measure => omega
          case rel =>
            refine ⟨j + 1, by omega, rfl, by first | rfl | go_num, Lib.hid ⟨(HX6.out.trans hE7.out).chg HC8.out (fun i k => by have k : i = w.heap.size := k; omega), ?_, by omega⟩⟩
            rw [HNO.out]
            refine ⟨HC8.out.at_ ((HV6.out.ext hE7.out).at_) (by intro k; have k : w.heap.size + 1 = w.heap.size := k; omega), by simpa [ents] using HMP.out, fun p hp => ?_⟩
            rcases List.mem_append.1 hp with hp | hp
            · exact HV6.out.ok p hp
            · simp at hp
              subst hp
              exact HT.out
    · obtain rfl : j = n := by omega
      go_wp2_with fail
      go_ret2
      exact ⟨_, _, rfl, HX.out, by rw [← HN.out]; exact HV.out, by omega, by omega, by omega, by omega⟩
end Go.Proofs.Ytipmkddcdnbihaa.Vault
