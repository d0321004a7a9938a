/- slices.Insert and slices.Delete of one element (printed by gen_insert.py). -/
import Derived.Test.YtfhgjopoohfhjaaSplice
import Derived.Test.YtfhgjopoohfhjaaClones
import Derived.Laws.Externs
import Derived.Shelf.RegionOpenPlain
import Derived.Outline
import Derived.Deep.DeepCutAuto
namespace Go.Proofs.Ytfhgjopoohfhjaa.Inserts
open Go.RowKit Base Step Vec Splice
theorem zsizeObj : (Try.prog.info? 108).map (fun i => (i.zero, i.size)) = some (some (.agg #[.int .u32 0, .string ByteArray.empty, .int .i64 0, .int .i64 0, .int .i64 0, .slice none 0 0]), 6) := by kernel_rfl
theorem sizeObj : (Try.prog.info? 108).map (·.size) = some 6 := by kernel_rfl
set_option maxHeartbeats 2000000 in
set_option maxRecDepth 100000 in
theorem insertObj (S : Nat → Prop) (A : Option Addr) (n c i vb : Nat) (xs vs : List Value) (w : World) (ho : Own w S 108 6 (.slice A n c) n xs) (hi : i ≤ n) (hv : w.heap[vb]? = some (.cells vs.toArray 108 (0, 0))) (hvl : vs.length = 6) (hne : i < n → (Value.slice A n c).ownBlock ≠ some vb) (h1 : ∀ u ∈ vs, u.oneCell' = true) (hx1 : ∀ u ∈ xs, u.oneCell' = true) (hb : (n + 1) * 72 ≤ 140737488355328) (hS : ∀ i, w.heap.size ≤ i → S i) :
    Calls Try.prog 175 #[.slice A n c, .int .i64 i, .slice (some ⟨vb, 0, none⟩) 1 1] w fun e w' => ∃ A' c', e = .returned (.slice A' (n + 1) c') ∧ Own w' S 108 6 (.slice A' (n + 1) c') (n + 1) (xs.take (i * 6) ++ vs ++ xs.drop (i * 6)) ∧ Chg (fun j => (Value.slice A n c).ownBlock = some j) w w' := by
  have hlen : xs.length = n * 6 := ho.row.1
  have hcap := ho.cap
  have HO := Lib.hid ho
  have HV := Lib.hid hv
  have H1 := Lib.hid h1
  have HX1 := Lib.hid hx1
  have hvc : ∀ j u, vs[j]? = some u → w.cell? ⟨vb, j, none⟩ = some u := fun j u hu => cell_blk hv (by simpa using hu)
  have HVC := Lib.hid hvc
  have HS := Lib.hid hS
  clear ho hv h1 hx1 hvc hS
  by_cases hin : i = n
  · obtain rfl := hin
    have hd : xs.take (i * 6) ++ vs ++ xs.drop (i * 6) = xs ++ vs := by
      rw [List.take_of_length_le (by omega), List.drop_of_length_le (by omega), List.append_nil]
    rw [hd]
    have hic := hcap.1
    rcases A with _ | ad
    all_goals
      go_enter Try.func175, Try.ntmps175
      go_wp2_with (at_builtin; refine wpList_appE _ rfl _ _ _ rfl S 108 _ 6 72 Try.underlying213 Clones.infoObj rfl (by decide) (by decide) _ _ xs rfl HO.out vb 1 vs rfl hvl HVC.out H1.out hb HS.out ?_; intro A2 c2 w2 ho2 hc2)
      all_goals
        go_ret
        exact ⟨A2, c2, rfl, ho2, hc2⟩
  · have hlt : i < n := by omega
    rcases A with _ | ad
    · have := own_none HO.out
      omega
    obtain ⟨g, cur, rfl, hg, hnc, hcm, hcs, hcx, hSg, _⟩ := blk_own HO.out
    simp only [maxLen] at hcm
    have HG := Lib.hid hg
    have hgv : vb ≠ g := fun e => hne hlt (by rw [e]; rfl)
    have hxc : ∀ j u, xs[j]? = some u → w.cell? ⟨g, j, none⟩ = some u := fun j u hu => cell_blk hg (by
      rw [← hcx] at hu
      have hj := (List.getElem?_eq_some_iff.1 hu).1
      rwa [List.getElem?_take_of_lt (by rw [List.length_take] at hj; omega)] at hu)
    have HXC := Lib.hid hxc
    have hdl : (xs.drop (i * 6)).length = (n - i) * 6 := by rw [List.length_drop, hlen]; omega
    have HDL := Lib.hid hdl
    have ni : ¬ ((i : Int) = (n : Int)) := by omega
    have hlen2 : cur.toList.length = c * 6 := by simpa using hcs
    have hgi : ¬ (c = i) := by omega
    clear hg hxc hdl hne hin
    by_cases hroom : n + 1 ≤ c
    · have hr2 : ¬ ((c : Int) < (n : Int) + 1) := by omega
      have hov : ∀ o lb cb, (callFunc 206 #[.slice (some ⟨vb, 0, none⟩) 1 1, .slice (some ⟨g, o, none⟩) lb cb]).run Try.prog w = .ok (.value (.bool false)) w := fun o lb cb => by
        rw [run_callFunc_extern Try.func206 (by kernel_rfl) (by kernel_rfl) (by kernel_rfl) (e := Extern.SlicesOverlaps.overlaps #[213, 213] #[4]) (by kernel_rfl),
          Lib.run_overlaps_apart w 213 4 108 Try.underlying213 6 Try.sizeOf108 ⟨vb, 0, none⟩ ⟨g, o, none⟩ 1 1 lb cb hgv 108 108 vs.toArray.size cur.size (by unfold World.shape?; rw [HV.out]) (by unfold World.shape?; rw [HG.out]) (by omega) (Pack.free_of HV.out _) (Pack.free_of HV.out _)]
        rfl
      go_enter Try.func175, Try.ntmps175
      go_wp2_with (simp only [hov])
      have mixed : Try.prog.follows .mixedOrders = true := by kernel_rfl
      have hw1 : IntKind.i64.wrap ((i : Int) + 1) = (i : Int) + 1 := by rw [IntKind.wrap_i64]; omega
      have hb1 : (0 : Int) ≤ (i : Int) + 1 := by omega
      have htn : ((i : Int) + 1).toNat = i + 1 := by omega
      have hb2 : ¬ (c = i + 1) := by omega
      have hb3 : (i : Int) ≤ (n : Int) + 1 := by omega
      have hsA : (cur.toList.length) = c * 6 := hlen2
      go_region_law_o (refine step_copyB _ rfl _ _ 213 rfl 108 6 Try.underlying213 sizeObj g ((i + 1) * 6) (n - i) (c - (i + 1)) (by simp [Act.eval, Act.put]) (some ⟨g, i * 6, none⟩) (n + 1 - i) (c - i) (by simp [Act.eval, Act.put]) cur 108 HG.out (n - i) (by simp only [Nat.min_def]; split <;> omega) (xs.drop (i * 6)) HDL.out (fun h => by cases h) (fun a ha j u hu => by cases ha; rw [add_zero_]; exact HXC.out _ _ (by rwa [List.getElem?_drop] at hu)) (by rw [HDL.out]; omega) (fun u hu => HX1.out u (List.mem_of_mem_drop hu)) ?_)
      have hg1 := setRow_heap w.drew g cur (putAt cur.toList ((i + 1) * 6) (xs.drop (i * 6))).toArray 108 (0, 0) HG.out
      have hc1 := Chg.trans (Chg.drew (Chg.refl (fun i => i = g) w)) (setRow_chg w.drew g (putAt cur.toList ((i + 1) * 6) (xs.drop (i * 6))).toArray)
      have HG1 := Lib.hid hg1
      have HC1 := Lib.hid hc1
      clear hg1 hc1
      generalize w.drew.setRow g (putAt cur.toList ((i + 1) * 6) (xs.drop (i * 6))).toArray = w1 at *
      have hl1 : (putAt cur.toList ((i + 1) * 6) (xs.drop (i * 6))).length = c * 6 := by rw [putAt_length (by rw [HDL.out]; omega)]; exact hlen2
      go_wp2_with (refine wpList_copyB _ rfl _ _ 213 rfl 108 6 Try.underlying213 sizeObj g (i * 6) (n + 1 - i) (c - i) rfl (some ⟨vb, 0, none⟩) 1 1 rfl _ 108 HG1.out 1 (by simp only [Nat.min_def]; split <;> omega) vs (by omega) (fun h => by cases h) (fun a ha j u hu => by cases ha; rw [add_zero_, Nat.zero_add]; exact HC1.out.cell (HVC.out _ _ hu) hgv) (by rw [List.size_toArray, hl1, hvl]; omega) H1.out ?_; intro w3 hg3 hc3)
      go_ret
      refine ⟨_, _, rfl, ?_, (Chg.trans HC1.out hc3).mono fun j _ hj => by rw [hj]; rfl⟩
      have := own_blk (S := S) (n := n + 1) (c := c) (size := 6) hg3 hroom (by simp only [maxLen]; omega) (by rw [List.size_toArray, putAt_length (by rw [List.toList_toArray, hl1, hvl]; omega), List.toList_toArray, hl1]) hSg
      rw [List.toList_toArray, List.toList_toArray, shifted hcx hlen hvl hi hlen2 hroom] at this
      simpa only [List.append_assoc] using this
    · have hr2 : (c : Int) < (n : Int) + 1 := by omega
      obtain rfl : n = c := by omega
      have hikn : i * 6 ≤ n * 6 := Nat.mul_le_mul_right _ hi
      have hti : (xs.take (i * 6)).length = i * 6 := by rw [List.length_take, hlen]; omega
      have hold0 : (Builtin.firstCells 6 i (.slice (some ⟨g, 0, none⟩) i n)).run Try.prog w.drew = .ok (xs.take (i * 6)).toArray w.drew :=
        run_firstCells_some w.drew 6 i ⟨g, 0, none⟩ i n (xs.take (i * 6)) hti (fun j u hu => by
          rw [add_zero_, Nat.zero_add]
          have hj := (List.getElem?_eq_some_iff.1 hu).1
          exact HXC.out j u (by rwa [List.getElem?_take_of_lt (by omega)] at hu))
      obtain ⟨inf, hinf, hiz, his, hib⟩ := info_parts Clones.infoObj
      obtain ⟨T0, hT0⟩ : ∃ T0, T0 = xs.take (i * 6) := ⟨_, rfl⟩
      rw [← hT0] at hti
      have hold : (Builtin.firstCells inf.size i (.slice (some ⟨g, 0, none⟩) i n)).run Try.prog w.drew = .ok T0.toArray w.drew := by rw [his, hT0]; exact hold0
      clear hold0
      have hrun := fun ty => Lib.run_append_grow_zeros w 213 3 ty 108 inf _ .i64 .i64 Try.underlying213 Try.underlying3 hinf hiz (some ⟨g, 0, none⟩) i n _ hold (n + 1 - i) (by omega) (by omega) (by omega) (by omega) (by rw [hib]; omega) (by rw [hib]; exact growslice_fits (by omega) (by omega))
      have hge := grownCap_ge w (i + (n + 1 - i)) n 108
      have hle := grownCap_le_maxLen w (i + (n + 1 - i)) n 108 (by simp only [maxLen]; omega)
      have hni : i + (n + 1 - i) = n + 1 := by omega
      rw [hni] at hrun hge hle
      have hz : (Value.cells (.agg #[.int .u32 0, .string ByteArray.empty, .int .i64 0, .int .i64 0, .int .i64 0, .slice none 0 0])).size = 6 := by rfl
      generalize grownCap w (n + 1) n 108 = G at *
      obtain ⟨R, hR⟩ : ∃ R, R = T0.toArray ++ Builtin.zeroCells (Value.cells (.agg #[.int .u32 0, .string ByteArray.empty, .int .i64 0, .int .i64 0, .int .i64 0, .slice none 0 0])) (n + 1 - i) ++ Builtin.zeroCells (Value.cells (.agg #[.int .u32 0, .string ByteArray.empty, .int .i64 0, .int .i64 0, .int .i64 0, .slice none 0 0])) (G - (n + 1)) := ⟨_, rfl⟩
      have hRl : R.size = G * 6 := by
        rw [hR]
        simp [Builtin.zeroCells, hz]
        omega
      have hRt : R.toList.take (i * 6) = xs.take (i * 6) := by
        rw [hR, ← hT0]
        simp only [Array.toList_append, List.toList_toArray, List.append_assoc]
        rw [List.take_append_of_le_length (by omega), List.take_of_length_le (by omega)]
      rw [← hR] at hrun
      have hrl2 : R.toList.length = G * 6 := by simpa using hRl
      simp only [maxLen] at hle
      have HE1 := Lib.hid (Ext.drew (Ext.new w (.cells R 108)))
      have hn1 : ((w.alloc (.cells R 108)).drew).heap[w.heap.size]? = some (.cells R 108 (0, 0)) := at_new w (.cells R 108)
      have hgG : ¬ (w.heap.size = g) := fun e => by have := Pack.lt_of_at HG.out; omega
      have hni2 : (n : Int) + 1 - i = ((n + 1 - i : Nat) : Int) := by omega
      clear hR hold
      go_enter Try.func175, Try.ntmps175
      go_upto_region 10 with (at_builtin; (refine Lib.wpList_append_run _ rfl _ _ _ _ rfl (.slice (some ⟨g, 0, none⟩) i n) (.int .i64 ((n + 1 - i : Nat) : Int)) rfl rfl _ _ (hrun _) ?_))
      have HN1 := Lib.hid hn1
      clear hn1 hrun hni2
      generalize (w.alloc (.cells R 108)).drew = w1 at *
      have hlp1 : (putAt R.toList (i * 6) vs).length = G * 6 := by rw [putAt_length (by rw [hrl2, hvl]; omega), hrl2]
      go_wp2_with (refine wpList_copyB _ rfl _ _ 213 rfl 108 6 Try.underlying213 sizeObj w.heap.size (i * 6) (n + 1 - i) (G - i) rfl (some ⟨vb, 0, none⟩) 1 1 rfl R 108 HN1.out 1 (by simp only [Nat.min_def]; split <;> omega) vs (by omega) (fun h => by cases h) (fun a ha j u hu => by cases ha; rw [add_zero_, Nat.zero_add]; exact HE1.out.cell_ (HVC.out _ _ hu)) (by rw [hRl, hvl]; omega) H1.out ?_; intro w3 hg3 hc3)
      have HE3 := Lib.hid (HE1.out.chg hc3 fun j hj => by rw [hj]; exact Nat.le_refl _)
      have HG3 := Lib.hid hg3
      have mixed : Try.prog.follows .mixedOrders = true := by kernel_rfl
      have hw1 : IntKind.i64.wrap ((i : Int) + 1) = (i : Int) + 1 := by rw [IntKind.wrap_i64]; omega
      have hb1 : (0 : Int) ≤ (i : Int) + 1 := by omega
      have htn : ((i : Int) + 1).toNat = i + 1 := by omega
      have hb2 : ¬ (G = i + 1) := by omega
      have hb3 : (i : Int) ≤ (n : Int) := by omega
      have hb4 : (i : Int) + 1 ≤ (n : Int) + 1 := by omega
      clear hg3 hc3
      go_region_law_o (refine step_copyB _ rfl _ _ 213 rfl 108 6 Try.underlying213 sizeObj w.heap.size ((i + 1) * 6) (n - i) (G - (i + 1)) (by simp [Act.eval, Act.put]) (some ⟨g, i * 6, none⟩) (n - i) (n - i) (by simp [Act.eval, Act.put]) (putAt R.toList (i * 6) vs).toArray 108 HG3.out (n - i) (by simp only [Nat.min_def]; split <;> omega) (xs.drop (i * 6)) HDL.out (fun h => by cases h) (fun a ha j u hu => by cases ha; rw [add_zero_]; exact HE3.out.cell_ (HXC.out _ _ (by rwa [List.getElem?_drop] at hu))) (by rw [HDL.out, List.size_toArray, hlp1]; omega) (fun u hu => HX1.out u (List.mem_of_mem_drop hu)) ?_)
      have hg4 := setRow_heap w3.drew w.heap.size _ (putAt (putAt R.toList (i * 6) vs) ((i + 1) * 6) (xs.drop (i * 6))).toArray 108 (0, 0) HG3.out
      have he4 := HE3.out.chg (Chg.trans (Chg.drew (Chg.refl (fun i => i = w.heap.size) w3)) (setRow_chg w3.drew w.heap.size (putAt (putAt R.toList (i * 6) vs) ((i + 1) * 6) (xs.drop (i * 6))).toArray)) fun j hj => by rw [hj]; exact Nat.le_refl _
      have HG4 := Lib.hid hg4
      have HE4 := Lib.hid he4
      clear hg4 he4
      generalize w3.drew.setRow w.heap.size (putAt (putAt R.toList (i * 6) vs) ((i + 1) * 6) (xs.drop (i * 6))).toArray = w4 at *
      go_wp2_with fail
      go_ret
      refine ⟨_, _, rfl, ?_, Below.chg HE4.out⟩
      have := own_blk (S := S) (n := n + 1) (c := G) (size := 6) HG4.out hge (by simp only [maxLen]; omega) (by rw [List.size_toArray, putAt_length (by rw [hlp1, HDL.out]; omega), hlp1]) (HS.out _ (Nat.le_refl _))
      rw [List.toList_toArray, grown hRt hlen hvl hi hrl2 hge] at this
      simpa only [List.append_assoc] using this
set_option maxHeartbeats 2000000 in
set_option maxRecDepth 100000 in
theorem deleteObj (S : Nat → Prop) (A : Option Addr) (n c i : Nat) (xs : List Value) (w : World) (ho : Own w S 108 6 (.slice A n c) n xs) (hi : i < n) (hx1 : ∀ u ∈ xs, u.oneCell' = true) (hb : n * 72 ≤ 140737488355328) :
    Calls Try.prog 177 #[.slice A n c, .int .i64 i, .int .i64 ((i + 1 : Nat) : Int)] w fun e w' => ∃ A' c', e = .returned (.slice A' (n - 1) c') ∧ Own w' S 108 6 (.slice A' (n - 1) c') (n - 1) (xs.take (i * 6) ++ xs.drop ((i + 1) * 6)) ∧ Chg (fun j => (Value.slice A n c).ownBlock = some j) w w' := by
  have hlen : xs.length = n * 6 := ho.row.1
  rcases A with _ | ad
  · have := own_none ho
    omega
  obtain ⟨g, cur, rfl, hg, hnc, hcm, hcs, hcx, hSg, _⟩ := blk_own ho
  simp only [maxLen] at hcm
  have HX1 := Lib.hid hx1
  have HG := Lib.hid hg
  have hxc : ∀ j u, xs[j]? = some u → w.cell? ⟨g, j, none⟩ = some u := fun j u hu => cell_blk hg (by
    rw [← hcx] at hu
    have hj := (List.getElem?_eq_some_iff.1 hu).1
    rwa [List.getElem?_take_of_lt (by rw [List.length_take] at hj; omega)] at hu)
  have HXC := Lib.hid hxc
  have hdl : (xs.drop ((i + 1) * 6)).length = (n - (i + 1)) * 6 := by rw [List.length_drop, hlen]; omega
  have HDL := Lib.hid hdl
  have hlen2 : cur.toList.length = c * 6 := by simpa using hcs
  have mixed : Try.prog.follows .mixedOrders = true := by kernel_rfl
  have hni : ¬ ((i : Int) = (i : Int) + 1) := by omega
  have hni2 : ¬ (c = i) := by omega
  have hin : (i : Int) + 1 ≤ (n : Int) := by omega
  clear ho hx1 hg hxc hdl
  go_enter Try.func177, Try.ntmps177
  go_upto_region 5 with fail
  have hic : i ≤ c := by omega
  have hb1 : (0 : Int) ≤ (i : Int) + 1 := by omega
  have htn : ((i : Int) + 1).toNat = i + 1 := by omega
  have hij : i + 1 ≤ n := by omega
  have hwi : IntKind.i64.wrap (i : Int) = i := by rw [IntKind.wrap_i64]; omega
  have hg1 := setRow_heap w.drew g cur (putAt cur.toList (i * 6) (xs.drop ((i + 1) * 6))).toArray 108 (0, 0) HG.out
  have hc1 := Chg.trans (Chg.drew (Chg.refl (fun i => i = g) w)) (setRow_chg w.drew g (putAt cur.toList (i * 6) (xs.drop ((i + 1) * 6))).toArray)
  have HG1 := Lib.hid hg1
  have HC1 := Lib.hid hc1
  clear hg1 hc1
  have hin2 : i + (n - (i + 1)) = n - 1 := by omega
  have hl1 : (putAt cur.toList (i * 6) (xs.drop ((i + 1) * 6))).length = c * 6 := by rw [putAt_length (by rw [HDL.out]; omega)]; exact hlen2
  have hfin : ∀ w3, w3.heap[g]? = some (.cells (putAt (putAt cur.toList (i * 6) (xs.drop ((i + 1) * 6))) ((n - 1) * 6) (Builtin.zeroCells (Value.cells (.agg #[.int .u32 0, .string ByteArray.empty, .int .i64 0, .int .i64 0, .int .i64 0, .slice none 0 0])) 1).toList).toArray 108 (0, 0)) → Own w3 S 108 6 (.slice (some ⟨g, 0, none⟩) (n - 1) c) (n - 1) (xs.take (i * 6) ++ xs.drop ((i + 1) * 6)) := fun w3 hg3 => by
    have hzl : (Builtin.zeroCells (Value.cells (.agg #[.int .u32 0, .string ByteArray.empty, .int .i64 0, .int .i64 0, .int .i64 0, .slice none 0 0])) 1).toList.length = 6 := by rw [Array.length_toList, zeroCells_size]; rfl
    have := own_blk (S := S) (n := n - 1) (c := c) (size := 6) hg3 (by omega) (by simp only [maxLen]; omega) (by rw [List.size_toArray, putAt_length (by rw [hl1, hzl]; omega), hl1]) hSg
    rw [List.toList_toArray, cutout hcx hlen hi hlen2 hnc] at this
    exact this
  have HFIN := Lib.hid hfin
  clear hfin
  by_cases hce : c = i + 1
  · subst hce
    obtain rfl : n = i + 1 := by omega
    have hii : (i : Int) ≤ (i : Int) + 1 := by omega
    have hi1 : ¬ (i + 1 = i) := by omega
    have hnn : i + 1 - i = 1 := by omega
    go_region_law_o (go_loud (refine step_append_in _ rfl _ _ 213 rfl 108 6 Try.underlying213 sizeObj g i (i + 1) (by simp [Act.eval, Act.put]) (some ⟨g, 0, none⟩) 0 0 (by simp [Act.eval, Act.put]) cur 108 HG.out (xs.drop ((i + 1) * 6)) (by rw [HDL.out]; omega) (by omega) (fun h => by cases h) (fun a ha j u hu => by have := (List.getElem?_eq_some_iff.1 hu).1; rw [HDL.out] at this; omega) (by rw [HDL.out]; omega) (fun u hu => HX1.out u (List.mem_of_mem_drop hu)) ?_))
    try simp only [hin2]
    generalize w.drew.setRow g (putAt cur.toList (i * 6) (xs.drop ((i + 1) * 6))).toArray = w1 at *
    go_simp
    go_wp2_with (refine wpList_clearB _ rfl _ 213 rfl 108 (.agg #[.int .u32 0, .string ByteArray.empty, .int .i64 0, .int .i64 0, .int .i64 0, .slice none 0 0]) 6 Try.underlying213 zsizeObj rfl g (i * 6) 1 1 rfl (by omega) (putAt cur.toList (i * 6) (xs.drop ((i + 1) * 6))).toArray 108 HG1.out (by rw [List.size_toArray, hl1]; omega) (by intro u hu; revert u; simp [Value.cells, Value.oneCell']) ?_; intro w3 hg3 hc3)
    go_ret
    exact ⟨_, _, rfl, HFIN.out w3 hg3, (Chg.trans HC1.out hc3).mono fun j _ hj => by rw [hj]; rfl⟩
  · go_region_law_o (refine step_append_in _ rfl _ _ 213 rfl 108 6 Try.underlying213 sizeObj g i c (by simp [Act.eval, Act.put]) (some ⟨g, (i + 1) * 6, none⟩) (n - (i + 1)) (c - (i + 1)) (by simp [Act.eval, Act.put]) cur 108 HG.out (xs.drop ((i + 1) * 6)) HDL.out (by omega) (fun h => by cases h) (fun a ha j u hu => by cases ha; rw [add_zero_]; exact HXC.out _ _ (by rwa [List.getElem?_drop] at hu)) (by rw [HDL.out]; omega) (fun u hu => HX1.out u (List.mem_of_mem_drop hu)) ?_)
    try simp only [hin2]
    generalize w.drew.setRow g (putAt cur.toList (i * 6) (xs.drop ((i + 1) * 6))).toArray = w1 at *
    have hnn : n - (n - 1) = 1 := by omega
    have hcn : ¬ (c = n - 1) := by omega
    have hpn : ((n - 1 : Nat) : Int) ≤ (n : Int) := by omega
    have hpn2 : n - 1 ≤ n := by omega
    go_simp
    go_wp2_with (refine wpList_clearB _ rfl _ 213 rfl 108 (.agg #[.int .u32 0, .string ByteArray.empty, .int .i64 0, .int .i64 0, .int .i64 0, .slice none 0 0]) 6 Try.underlying213 zsizeObj rfl g ((n - 1) * 6) 1 (c - (n - 1)) rfl (by omega) (putAt cur.toList (i * 6) (xs.drop ((i + 1) * 6))).toArray 108 HG1.out (by rw [List.size_toArray, hl1]; omega) (by intro u hu; revert u; simp [Value.cells, Value.oneCell']) ?_; intro w3 hg3 hc3)
    go_ret
    exact ⟨_, _, rfl, HFIN.out w3 hg3, (Chg.trans HC1.out hc3).mono fun j _ hj => by rw [hj]; rfl⟩
end Go.Proofs.Ytfhgjopoohfhjaa.Inserts
