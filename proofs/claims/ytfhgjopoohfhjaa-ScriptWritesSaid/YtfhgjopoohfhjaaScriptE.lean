/- The script's functions, walked: a word put where it belongs; a line read. -/
import Derived.Test.YtfhgjopoohfhjaaScriptD
import Derived.Test.YtfhgjopoohfhjaaRowSt
import Derived.Laws.IdiomStrings
namespace Go.Proofs.Ytfhgjopoohfhjaa.Script
open Go.RowKit Base Step Vec
open ScriptP (L nm nameI kindOf Kind form formI digits digitsI numP numR chr cut St wordV wordOk parseP)
/-- A step's cells. -/
abbrev cellsV (s : St) (D : Option Addr) (n c : Nat) : Array Value := #[.int .i64 s.kind, .string (S s.name), .slice D n c, .int .i64 s.node, .int .i64 s.a, .int .i64 s.b, .int .u8 s.bits]
theorem cells_one (s : St) (D : Option Addr) (n c : Nat) : (cellsV s D n c).all (·.oneCell') = true := by simp [Value.oneCell']
theorem set7 {w : World} {g : Nat} {T : TypeId} {fr : Nat × Nat} {u0 u1 u2 u3 u4 u5 u6 : Value} (h : w.heap[g]? = some (.cells #[u0, u1, u2, u3, u4, u5, u6] T fr)) (v0 v1 v2 v3 v4 v5 v6 : Value) :
    (((((((w.setCell ⟨g, 0, none⟩ v0).setCell ⟨g, 1, none⟩ v1).setCell ⟨g, 2, none⟩ v2).setCell ⟨g, 3, none⟩ v3).setCell ⟨g, 4, none⟩ v4).setCell ⟨g, 5, none⟩ v5).setCell ⟨g, 6, none⟩ v6).heap[g]? = some (.cells #[v0, v1, v2, v3, v4, v5, v6] T fr) := by
  have h0 : (w.setCell ⟨g, 0, none⟩ v0).heap[g]? = some (.cells #[v0, u1, u2, u3, u4, u5, u6] T fr) := set_blk (i := 0) h v0
  have h1 : ((w.setCell ⟨g, 0, none⟩ v0).setCell ⟨g, 1, none⟩ v1).heap[g]? = some (.cells #[v0, v1, u2, u3, u4, u5, u6] T fr) := set_blk (i := 1) h0 v1
  have h2 : (((w.setCell ⟨g, 0, none⟩ v0).setCell ⟨g, 1, none⟩ v1).setCell ⟨g, 2, none⟩ v2).heap[g]? = some (.cells #[v0, v1, v2, u3, u4, u5, u6] T fr) := set_blk (i := 2) h1 v2
  have h3 : ((((w.setCell ⟨g, 0, none⟩ v0).setCell ⟨g, 1, none⟩ v1).setCell ⟨g, 2, none⟩ v2).setCell ⟨g, 3, none⟩ v3).heap[g]? = some (.cells #[v0, v1, v2, v3, u4, u5, u6] T fr) := set_blk (i := 3) h2 v3
  have h4 : (((((w.setCell ⟨g, 0, none⟩ v0).setCell ⟨g, 1, none⟩ v1).setCell ⟨g, 2, none⟩ v2).setCell ⟨g, 3, none⟩ v3).setCell ⟨g, 4, none⟩ v4).heap[g]? = some (.cells #[v0, v1, v2, v3, v4, u5, u6] T fr) := set_blk (i := 4) h3 v4
  have h5 : ((((((w.setCell ⟨g, 0, none⟩ v0).setCell ⟨g, 1, none⟩ v1).setCell ⟨g, 2, none⟩ v2).setCell ⟨g, 3, none⟩ v3).setCell ⟨g, 4, none⟩ v4).setCell ⟨g, 5, none⟩ v5).heap[g]? = some (.cells #[v0, v1, v2, v3, v4, v5, u6] T fr) := set_blk (i := 5) h4 v5
  have h6 : (((((((w.setCell ⟨g, 0, none⟩ v0).setCell ⟨g, 1, none⟩ v1).setCell ⟨g, 2, none⟩ v2).setCell ⟨g, 3, none⟩ v3).setCell ⟨g, 4, none⟩ v4).setCell ⟨g, 5, none⟩ v5).setCell ⟨g, 6, none⟩ v6).heap[g]? = some (.cells #[v0, v1, v2, v3, v4, v5, v6] T fr) := set_blk (i := 6) h5 v6
  exact h6
theorem chg1 (w : World) (g i : Nat) (v : Value) : Chg (fun j => j = g) w (w.setCell ⟨g, i, none⟩ v) := Chg.setCell (S := fun j => j = g) (Chg.refl _ w) (p := ⟨g, i, none⟩) rfl v
theorem chg7 (w : World) (g : Nat) (v0 v1 v2 v3 v4 v5 v6 : Value) : Chg (fun i => i = g) w (((((((w.setCell ⟨g, 0, none⟩ v0).setCell ⟨g, 1, none⟩ v1).setCell ⟨g, 2, none⟩ v2).setCell ⟨g, 3, none⟩ v3).setCell ⟨g, 4, none⟩ v4).setCell ⟨g, 5, none⟩ v5).setCell ⟨g, 6, none⟩ v6) := (((((((chg1 w g 0 v0).trans (chg1 _ g 1 v1)).trans (chg1 _ g 2 v2)).trans (chg1 _ g 3 v3)).trans (chg1 _ g 4 v4)).trans (chg1 _ g 5 v5)).trans (chg1 _ g 6 v6))
theorem w_name (s : St) (w : L) : wordV s 110 w = { s with name := w } := by simp [wordV]
theorem w_node (s : St) (w : L) : wordV s 119 w = { s with node := ((numP w).getD 0 : Nat) } := by simp [wordV]
theorem w_a (s : St) (w : L) : wordV s 97 w = { s with a := ((numP w).getD 0 : Nat) } := by simp [wordV]
theorem w_b (s : St) (w : L) : wordV s 98 w = { s with b := ((numP w).getD 0 : Nat) } := by simp [wordV]
theorem w_bits (s : St) (w : L) : wordV s 120 w = { s with bits := ((numP w).getD 0 % 256 : Nat) } := by simp [wordV]
theorem num_most {l : L} {m : Nat} (h : numP l = some m) : m ≤ 1073741824 := by
  rw [ScriptP.numP_eq, ScriptP.numR_iff] at h
  have := h.2.2.2.2
  unfold ScriptP.most at this
  omega
set_option maxRecDepth 100000 in
set_option maxHeartbeats 4000000 in
theorem word_calls (s : St) (D : Option Addr) (n c : Nat) (k : UInt8) (t : ByteArray) (g : Nat) (w : World) (hb : w.heap[g]? = some (.cells (cellsV s D n c) 46 (0, 0))) (ht : t.size ≤ 140737488351232) (hk : k = 110 ∨ k = 119 ∨ k = 97 ∨ k = 98 ∨ k = 120) :
    Calls Try.prog 109 #[.pointer (some ⟨g, 0, none⟩), .int .u8 (k.toNat : Nat), .string t] w fun e w' => e = .returned (.bool (wordOk k t.data.toList)) ∧ w'.heap[g]? = some (.cells (cellsV (wordV s k t.data.toList) D n c) 46 (0, 0)) ∧ Chg (fun i => i = g) w w' := by
  obtain ⟨s0, s1, s2, s3, s4, s5, s6⟩ := s
  dsimp only [cellsV] at hb
  have f1 := Pack.free_of hb 1
  have f3 := Pack.free_of hb 3
  have f4 := Pack.free_of hb 4
  have f5 := Pack.free_of hb 5
  have f6 := Pack.free_of hb 6
  have q1 := blk_cell (i := 1) hb (Ext.refl _) rfl
  have q3 := blk_cell (i := 3) hb (Ext.refl _) rfl
  have q4 := blk_cell (i := 4) hb (Ext.refl _) rfl
  have q5 := blk_cell (i := 5) hb (Ext.refl _) rfl
  have q6 := blk_cell (i := 6) hb (Ext.refl _) rfl
  have HB := Lib.hid hb
  clear hb
  have HNUM := Lib.hid (number_calls t w (by omega))
  obtain ⟨m, hm⟩ : ∃ m, (numP t.data.toList).getD 0 = m := ⟨_, rfl⟩
  obtain ⟨o, ho⟩ : ∃ o, (numP t.data.toList).isSome = o := ⟨_, rfl⟩
  have hml : m ≤ 1073741824 := by
    rw [← hm]
    cases hn : numP t.data.toList with
    | none => simp
    | some x => simpa using num_most hn
  rw [hm, ho] at HNUM
  have HM := Lib.hid hm
  have HO := Lib.hid ho
  clear hm ho
  have hm0 : (0 : Int) ≤ m := by omega
  rcases hk with rfl | rfl | rfl | rfl | rfl
  · go_enter Try.func109, Try.ntmps109
    go_wp2_with fail
    refine HNUM.out.mono ?_
    rintro e w' ⟨rfl, rfl⟩
    go_wp2_with fail
    go_ret
    exact ⟨ret_bool rfl, set_blk HB.out _, chg1 _ _ _ _⟩
  · go_enter Try.func109, Try.ntmps109
    go_wp2_with fail
    refine HNUM.out.mono ?_
    rintro e w' ⟨rfl, rfl⟩
    go_wp2_with fail
    go_ret
    refine ⟨ret_bool ?_, ?_, chg1 _ _ _ _⟩
    · rw [← HO.out]; rfl
    · rw [w_node, HM.out]; exact set_blk HB.out _
  · go_enter Try.func109, Try.ntmps109
    go_wp2_with fail
    refine HNUM.out.mono ?_
    rintro e w' ⟨rfl, rfl⟩
    go_wp2_with fail
    go_ret
    refine ⟨ret_bool ?_, ?_, chg1 _ _ _ _⟩
    · rw [← HO.out]; rfl
    · rw [w_a, HM.out]; exact set_blk HB.out _
  · go_enter Try.func109, Try.ntmps109
    go_wp2_with fail
    refine HNUM.out.mono ?_
    rintro e w' ⟨rfl, rfl⟩
    go_wp2_with fail
    go_ret
    refine ⟨ret_bool ?_, ?_, chg1 _ _ _ _⟩
    · rw [← HO.out]; rfl
    · rw [w_b, HM.out]; exact set_blk HB.out _
  · have hmb : IntKind.u8.wrap (m : Int) = ((m % 256 : Nat) : Int) := by simp [IntKind.wrap, IntKind.bits, IntKind.signed]
    have HMB := Lib.hid hmb
    cases o
    · go_enter Try.func109, Try.ntmps109
      go_wp2_with fail
      refine HNUM.out.mono ?_
      rintro e w' ⟨rfl, rfl⟩
      go_wp2_with fail
      go_ret
      refine ⟨ret_bool ?_, ?_, chg1 _ _ _ _⟩
      · have : wordOk 120 t.data.toList = ((numP t.data.toList).isSome && decide ((numP t.data.toList).getD 0 ≤ 255)) := rfl
        rw [this, HO.out]; rfl
      · rw [w_bits, HM.out]; exact set_blk HB.out _
    · by_cases h255 : m ≤ 255
      · have h255' : (m : Int) ≤ 255 := by omega
        go_enter Try.func109, Try.ntmps109
        go_wp2_with fail
        refine HNUM.out.mono ?_
        rintro e w' ⟨rfl, rfl⟩
        go_wp2_with fail
        go_ret
        refine ⟨ret_bool ?_, ?_, chg1 _ _ _ _⟩
        · have : wordOk 120 t.data.toList = ((numP t.data.toList).isSome && decide ((numP t.data.toList).getD 0 ≤ 255)) := rfl
          rw [this, HO.out, HM.out]; simp [h255]
        · rw [w_bits, HM.out]; exact set_blk HB.out _
      · have h255' : 255 < (m : Int) := by omega
        go_enter Try.func109, Try.ntmps109
        go_wp2_with fail
        refine HNUM.out.mono ?_
        rintro e w' ⟨rfl, rfl⟩
        go_wp2_with fail
        go_ret
        refine ⟨ret_bool ?_, ?_, chg1 _ _ _ _⟩
        · have : wordOk 120 t.data.toList = ((numP t.data.toList).isSome && decide ((numP t.data.toList).getD 0 ≤ 255)) := rfl
          rw [this, HO.out, HM.out]; simp [h255]; omega
        · rw [w_bits, HM.out]; exact set_blk HB.out _
theorem cut_len : ∀ (l : L), (cut l).1.length ≤ l.length ∧ (cut l).2.1.length ≤ l.length
  | [] => ⟨Nat.le_refl _, Nat.le_refl _⟩
  | c :: cs => by
    by_cases h : c = 32
    · simp only [cut, if_pos h, List.length_nil, List.length_cons]
      exact ⟨by omega, by omega⟩
    · have := cut_len cs
      simp only [cut, if_neg h, List.length_cons]
      exact ⟨by omega, by omega⟩
theorem form_letters : ∀ j : Fin 18, ∀ c ∈ form j.val, c = 110 ∨ c = 100 ∨ c = 119 ∨ c = 97 ∨ c = 98 ∨ c = 120 := by decide
/-- []byte(s). -/
theorem run_bytes (W : World) (r : L) (hs : r.length ≤ 140737488351232) : ∃ c W', (convert 9 22 (.string (S r))).run Try.prog W = .ok (.slice (some ⟨W.heap.size, 0, none⟩) r.length c) W' ∧ Ext W W' ∧ Rd W' .u8 (some ⟨W.heap.size, 0, none⟩) r.length (ints r) ∧ r.length ≤ c := by
  have hsz : (S r).size = r.length := by simp [ByteArray.size]
  have h := run_bytes_of_string (P := Try.prog) W 9 22 5 (S r) Try.underlying9 Try.underlying22 Try.underlying5
  rw [hsz] at h
  refine ⟨_, _, h, (Ext.refl W).drew.alloc _, ⟨by simp [ints], by omega, ints_wf _, fun h0 => ⟨_, rfl, fun j hj => ?_⟩⟩, ?_⟩
  · refine World.news_of_block (at_new _ _) j _ ?_
    have h1 : j < r.length := hj
    simp only [bytesRow, ints, Array.toList_append, Array.toList_map]
    rw [List.getElem?_append_left (by simpa using h1), List.getElem?_map, List.getElem?_eq_getElem h1, List.getD_eq_getElem?_getD, List.getElem?_map, List.getElem?_eq_getElem h1]
    rfl
  · have := grownCap_ge W r.length 0 5
    simpa using this
section
variable {P : Program}
theorem wpList_conv {ops : Array Oper} {rest : List Oper} {o : Oper} {a : Act} {Q : Exit → Act → World → Prop} {w w' : World} {v : Value} (src dst : TypeId) (x : Operand) (u : Value) (hgd : o.guard = none) (ho : o.op = .convert src dst x)
    (hx : a.eval x = u) (hrun : (convert src dst u).run P w = .ok v w') (h : wpList P ops Q rest (a.put o.dst v) w') : wpList P ops Q (o :: rest) a w := by
  refine wpList_plain hgd fun K hK => ?_
  unfold Oper.wp execOp
  simp only [ho, hx, hrun, Sem.run_bind, Sem.run_pure, Result.andThen_ok]
  exact hK _ _ h
end
/-- What a line read comes to. -/
def ParsePost (w : World) (e : Ending) (w' : World) (o : Option St) : Prop := Ext w w' ∧ match o with
  | none => e = .returned (.tuple #[stV (St.of 0) none 0 0, .int .i64 21])
  | some s => ∃ D n c, e = .returned (.tuple #[stV s D n c, .int .i64 0]) ∧ Rd w' .u8 D n (ints s.data)
def PreParse (w wr : World) (gs gr : Nat) (s : St) : Prop := wr.heap[gs]? = some (.cells (cellsV s none 0 0) 46 (0, 0)) ∧ wr.heap[gr]? = some (.cells (cellsV (St.of 0) none 0 0) 46 (0, 0)) ∧ Ext w wr
theorem PreParse.ext_ {w wr wr' : World} {gs gr : Nat} {s : St} (h : PreParse w wr gs gr s) (he : Ext wr wr') : PreParse w wr' gs gr s := ⟨he.at_ h.1, he.at_ h.2.1, h.2.2.trans he⟩
theorem PreParse.word {w wr wr' : World} {gs gr : Nat} {s s' : St} (h : PreParse w wr gs gr s) (hb : wr'.heap[gs]? = some (.cells (cellsV s' none 0 0) 46 (0, 0))) (hc : Chg (fun i => i = gs) wr wr') (hne : gr ≠ gs) (hw : w.heap.size ≤ gs) : PreParse w wr' gs gr s' :=
  ⟨hb, hc.at_ h.2.1 hne, h.2.2.chg hc fun i hi => by rw [hi]; exact hw⟩
set_option maxRecDepth 100000 in
set_option maxHeartbeats 1600000 in
theorem parse_calls (t : ByteArray) (w : World) (ht : t.size ≤ 140737488351232) : Calls Try.prog 44 #[.string t] w fun e w' => ParsePost w e w' (parseP t.data.toList) := by
  have hl : t.data.toList.length = t.size := by simp
  have hcl := cut_len t.data.toList
  have hk17 := ScriptP.kindOf_le (cut t.data.toList).1
  obtain ⟨k, hk⟩ : ∃ k, kindOf (cut t.data.toList).1 = k := ⟨_, rfl⟩
  have HK := Lib.hid hk
  rw [hk] at hk17
  clear hk
  go_enter Try.func44, Try.ntmps44
  go_wp2_with fail
  refine (cut_calls t _ (by omega)).mono ?_
  rintro e w1 ⟨rfl, he1⟩
  have hE1 := (Ext.new w (.cells (cellsV (St.of 0) none 0 0) 46)).trans he1
  have hgr1 : w1.heap[w.heap.size]? = some (.cells (cellsV (St.of 0) none 0 0) 46 (0, 0)) := he1.at_ (at_new _ _)
  go_wp2_with fail
  refine (kindOf_calls _ _).mono ?_
  rintro e w2 ⟨rfl, he2⟩
  rw [show (S (cut t.data.toList).1).data.toList = (cut t.data.toList).1 from rfl, HK.out]
  have hE2 := hE1.trans he2
  have hgr2 := he2.at_ hgr1
  clear he1 hE1 hgr1 he2
  have hne : w.heap.size < w2.heap.size := (Array.getElem?_eq_some_iff.1 hgr2).1
  have hE3 := hE2.alloc (.cells #[.int .i64 k, .string { data := #[] }, .slice none 0 0, .int .i64 0, .int .i64 0, .int .i64 0, .int .u8 0] 46)
  have hgr3 := (Ext.new w2 (.cells #[.int .i64 k, .string { data := #[] }, .slice none 0 0, .int .i64 0, .int .i64 0, .int .i64 0, .int .u8 0] 46)).at_ hgr2
  have hgs3 := at_new w2 (.cells #[.int .i64 k, .string { data := #[] }, .slice none 0 0, .int .i64 0, .int .i64 0, .int .i64 0, .int .u8 0] 46)
  have HPRE : Hid (PreParse w (w2.alloc (.cells #[.int .i64 k, .string { data := #[] }, .slice none 0 0, .int .i64 0, .int .i64 0, .int .i64 0, .int .u8 0] 46)) w2.heap.size w.heap.size (St.of k)) := Lib.hid ⟨hgs3, hgr3, hE3⟩
  clear hgs3 hgr3 hE3
  go_wp2_with fail
  refine (form_calls (k : Int) _).mono ?_
  rintro e w' ⟨rfl, rfl⟩
  have hfk : (k = 0 → formI (k : Int) = []) ∧ (k ≠ 0 → formI (k : Int) = form k) := by
    constructor
    · rintro rfl; rfl
    · intro h; unfold formI; rw [if_pos ⟨by omega, by omega⟩]; rfl
  have hlet : ∀ c ∈ formI (k : Int), c = 110 ∨ c = 100 ∨ c = 119 ∨ c = 97 ∨ c = 98 ∨ c = 120 := by
    intro c hc
    by_cases h0 : k = 0
    · rw [hfk.1 h0] at hc; cases hc
    · rw [hfk.2 h0] at hc; exact form_letters ⟨k, by omega⟩ c hc
  have hflen : (formI (k : Int)).length ≤ 4 := by
    by_cases h0 : k = 0
    · rw [hfk.1 h0]; simp
    · rw [hfk.2 h0]
      have key : ∀ j : Fin 18, (form j.val).length ≤ 4 := by decide
      exact key ⟨k, by omega⟩
  have hpar : parseP t.data.toList = if k = 0 ∨ 10 ∈ t.data.toList then none else ScriptP.go (formI (k : Int)) (St.of k) (cut t.data.toList).2.1 (cut t.data.toList).2.2 := by
    unfold parseP
    rw [HK.out]
    by_cases h0 : k = 0 ∨ 10 ∈ t.data.toList
    · rw [if_pos h0, if_pos h0]
    · rw [if_neg h0, if_neg h0, hfk.2 (fun h => h0 (.inl h))]
  have HPAR := Lib.hid hpar
  have HLET := Lib.hid hlet
  obtain ⟨hc1, hc2⟩ := hcl
  rw [hl] at hc1 hc2
  clear hpar hlet hfk hl HK
  generalize formI (k : Int) = f at *
  generalize (cut t.data.toList).2.1 = r0 at *
  generalize (cut t.data.toList).2.2 = m0 at *
  generalize (cut t.data.toList).1 = n0 at *
  generalize hwp : w2.alloc (.cells #[.int .i64 k, .string { data := #[] }, .slice none 0 0, .int .i64 0, .int .i64 0, .int .i64 0, .int .u8 0] 46) = wp at *
  have HWP := Lib.hid hwp
  clear hwp hE2 hgr2
  generalize w2.heap.size = gs at *
  generalize hgr : w.heap.size = gr at *
  have HGR := Lib.hid hgr
  clear hgr
  have c0 : wp.cell? ⟨gs, 0, none⟩ = some (.int .i64 (k : Int)) := blk_cell (i := 0) HPRE.out.1 (Ext.refl _) rfl
  by_cases h0 : k = 0
  · subst h0
    have HN : Hid (parseP t.data.toList = none) := Lib.hid (by rw [HPAR.out, if_pos (.inl rfl)])
    go_wp2_with (refine RowSt.wpList_put 46 _ _ rfl rfl rfl gr (cellsV (St.of 0) none 0 0) rfl rfl 46 _ HPRE.out.2.1 (by kernel_rfl) rfl (cells_one _ _ _ _) ?_; intro w8 hb8 hc8)
    refine bodyPost_ret (v := .tuple #[stV (St.of 0) none 0 0, .int .i64 21]) (RowSt.results_cell_tmp (p := 2) (q := 3) rfl _ _ gr 46 (cellsV (St.of 0) none 0 0) (0, 0) _ rfl hb8 Try.underlying46 rfl (by kernel_rfl)) rfl ?_
    refine ⟨HPRE.out.2.2.chg hc8 fun i hi => by rw [hi, ← HGR.out]; exact Nat.le_refl _, ?_⟩
    rw [HN.out]
  · have h0b : ((k : Int) == 0) = false := by rw [beq_eq_false_iff_ne]; omega
    go_wp2_with fail
    refine (Shelf.strings_IndexByte t 10 _).mono ?_
    rintro e w' ⟨rfl, rfl⟩
    rw [show (10 : Int).toNat.toUInt8 = 10 from rfl]
    by_cases h10 : 10 ∈ t.data.toList
    · have HN : Hid (parseP t.data.toList = none) := Lib.hid (by rw [HPAR.out, if_pos (.inr h10)])
      have hib : 0 ≤ Lib.indexByte t.data.toList 10 := by
        have h1 := Lib.indexByte_ge t.data.toList 10
        rcases Int.lt_or_le (Lib.indexByte t.data.toList 10) 0 with h | h
        · obtain ⟨i, hi, he⟩ := List.getElem_of_mem h10
          have h2 := Lib.indexByte_none (l := t.data.toList) (c := 10) (by omega) i
          rw [List.getElem?_eq_getElem hi, he] at h2
          exact absurd rfl h2
        · exact h
      generalize Lib.indexByte t.data.toList 10 = ib at *
      go_wp2_with (refine RowSt.wpList_put 46 _ _ rfl rfl rfl gr (cellsV (St.of 0) none 0 0) rfl rfl 46 _ HPRE.out.2.1 (by kernel_rfl) rfl (cells_one _ _ _ _) ?_; intro w8 hb8 hc8)
      refine bodyPost_ret (v := .tuple #[stV (St.of 0) none 0 0, .int .i64 21]) (RowSt.results_cell_tmp (p := 2) (q := 3) rfl _ _ gr 46 (cellsV (St.of 0) none 0 0) (0, 0) _ rfl hb8 Try.underlying46 rfl (by kernel_rfl)) rfl ?_
      refine ⟨HPRE.out.2.2.chg hc8 fun i hi => by rw [hi, ← HGR.out]; exact Nat.le_refl _, ?_⟩
      rw [HN.out]
    · have HN : Hid (parseP t.data.toList = ScriptP.go f (St.of k) r0 m0) := Lib.hid (by rw [HPAR.out, if_neg]; rintro (h | h); exact h0 h; exact h10 h)
      have hib : Lib.indexByte t.data.toList 10 < 0 := by
        have h1 := Lib.indexByte_ge t.data.toList 10
        rcases Int.lt_or_le (Lib.indexByte t.data.toList 10) 0 with h | h
        · exact h
        · obtain ⟨i, hi⟩ := Int.eq_ofNat_of_zero_le h
          have h2 := (Lib.indexByte_some (l := t.data.toList) (c := 10) hi).1
          exact absurd (List.mem_of_getElem? h2) h10
      generalize Lib.indexByte t.data.toList 10 = ib at *
      go_wp2_with fail
      go_loopw [5, 6, 9, 10, 34] (fun rest more _ _ i wr => ∃ (j : Nat) (s : St) (r : L) (mo : Bool), i = .int .i64 j ∧ rest = .string (S r) ∧ more = .bool mo ∧ j ≤ f.length ∧ r.length ≤ t.size ∧ Hid (ScriptP.go (f.drop j) s r mo = parseP t.data.toList) ∧ s.data = [] ∧ Hid (PreParse w wr gs gr s)) (fun _ _ _ _ i _ => f.length - (intOf i).toNat)
      case atStart => exact ⟨0, St.of k, r0, m0, rfl, rfl, rfl, Nat.zero_le _, by omega, Lib.hid (by rw [HN.out]; rfl), rfl, HPRE⟩
      case round =>
        clear HPRE c0 HN
        obtain ⟨j, s, r, mo, rfl, rfl, rfl, hj, hr, HGO, hdata, HPRE⟩ := hrel
        have HDATA := Lib.hid hdata
        clear hdata
        by_cases hlt : j < f.length
        · have hlt' : j < (S f).size := by simpa [ByteArray.size] using hlt
          have hd : f.drop j = (S f)[j] :: f.drop (j + 1) := getD_byte (s := S f) hlt'
          obtain ⟨c, hc⟩ : ∃ c, (S f)[j] = c := ⟨_, rfl⟩
          rw [hc] at hd
          have hcf : c = 110 ∨ c = 100 ∨ c = 119 ∨ c = 97 ∨ c = 98 ∨ c = 120 := HLET.out c (List.mem_of_mem_drop (by rw [hd]; exact List.mem_cons_self))
          have HD := Lib.hid hd
          have HC := Lib.hid hc
          clear hd
          cases mo with
          | false =>
            have HF : Hid (parseP t.data.toList = none) := Lib.hid (by rw [← HGO.out, HD.out]; rfl)
            go_wp2_with (refine RowSt.wpList_put 46 _ _ rfl rfl rfl gr (cellsV (St.of 0) none 0 0) rfl rfl 46 _ HPRE.out.2.1 (by kernel_rfl) rfl (cells_one _ _ _ _) ?_; intro w8 hb8 hc8)
            refine bodyPost_ret (v := .tuple #[stV (St.of 0) none 0 0, .int .i64 21]) (RowSt.results_cell_tmp (p := 2) (q := 3) rfl _ _ gr 46 (cellsV (St.of 0) none 0 0) (0, 0) _ rfl hb8 Try.underlying46 rfl (by kernel_rfl)) rfl ?_
            refine ⟨HPRE.out.2.2.chg hc8 fun i hi => by rw [hi, ← HGR.out]; exact Nat.le_refl _, ?_⟩
            rw [HF.out]
          | true =>
            by_cases h100 : c = 100
            · subst h100
              have HF : Hid (parseP t.data.toList = some { s with data := r }) := Lib.hid (by rw [← HGO.out, HD.out]; rfl)
              obtain ⟨c9, w9, hrun9, he9, hr9, hcap9⟩ := run_bytes wr r (by omega)
              have hp9 := HPRE.out.ext_ he9
              have q2 := blk_cell (i := 2) hp9.1 (Ext.refl _) rfl
              have f2 := Pack.free_of hp9.1 2
              have hgsl : gs < wr.heap.size := (Array.getElem?_eq_some_iff.1 HPRE.out.1).1
              have hgrl : gr < wr.heap.size := (Array.getElem?_eq_some_iff.1 HPRE.out.2.1).1
              have hb9 : (w9.setCell ⟨gs, 2, none⟩ (.slice (some ⟨wr.heap.size, 0, none⟩) r.length c9)).heap[gs]? = some (.cells (cellsV s (some ⟨wr.heap.size, 0, none⟩) r.length c9) 46 (0, 0)) := set_blk (i := 2) hp9.1 _
              have hc9 := chg1 w9 gs 2 (.slice (some ⟨wr.heap.size, 0, none⟩) r.length c9)
              have HB9 := Lib.hid hb9
              have HR9 := Lib.hid (hc9.at_ hp9.2.1 (by omega))
              have HC9 := Lib.hid hc9
              have HP9 := Lib.hid hp9
              have HRD := Lib.hid hr9
              clear hb9 hc9 hp9 hr9
              go_wp2_with (first | (refine wpList_load_row rfl 46 _ rfl gs rfl 46 (cellsV s (some ⟨wr.heap.size, 0, none⟩) r.length c9) (0, 0) _ HB9.out Try.underlying46 rfl (by kernel_rfl) ?_) | (refine RowSt.wpList_put 46 _ _ rfl rfl rfl gr (cellsV s (some ⟨wr.heap.size, 0, none⟩) r.length c9) rfl rfl 46 _ HR9.out (by kernel_rfl) rfl (cells_one _ _ _ _) ?_; intro w8 hb8 hc8))
              refine bodyPost_ret (v := .tuple #[.agg (cellsV s (some ⟨wr.heap.size, 0, none⟩) r.length c9), .int .i64 0]) (RowSt.results_cell_tmp (p := 2) (q := 3) rfl _ _ gr 46 (cellsV s (some ⟨wr.heap.size, 0, none⟩) r.length c9) (0, 0) _ rfl hb8 Try.underlying46 rfl (by kernel_rfl)) rfl ?_
              have hx : Ext w w8 := (HP9.out.2.2.chg HC9.out fun i hi => by rw [hi, HGR.out]; omega).chg hc8 fun i hi => by rw [hi, ← HGR.out]; exact Nat.le_refl _
              refine ⟨hx, ?_⟩
              rw [HF.out]
              exact ⟨_, _, _, rfl, (HRD.out.chg HC9.out fun ad ha _ e => by cases ha; have e : wr.heap.size = gs := e; omega).chg hc8 fun ad ha _ e => by cases ha; have e : wr.heap.size = gr := e; omega⟩
            · have hb100 : ((c.toNat : Int) == 100) = false := by
                rw [beq_eq_false_iff_ne]
                intro h
                apply h100
                apply UInt8.toNat_inj.1
                have : (100 : UInt8).toNat = 100 := rfl
                omega
              go_wp2_with fail
              refine (cut_calls (S r) _ (by simp [ByteArray.size]; omega)).mono ?_
              rintro e w1 ⟨rfl, he1⟩
              have hlen := cut_len r
              have hstep : parseP t.data.toList = if wordOk c (cut r).1 = false then none else ScriptP.go (f.drop (j + 1)) (wordV s c (cut r).1) (cut r).2.1 (cut r).2.2 := by
                rw [← HGO.out, HD.out]
                show (if true = false then _ else _) = _
                rw [if_neg (by decide), if_neg h100]
              have HSTEP := Lib.hid hstep
              clear hstep
              rw [show (S r).data.toList = r from rfl]
              generalize (cut r).1 = x at *
              generalize (cut r).2.1 = y at *
              generalize (cut r).2.2 = m2 at *
              have hp1 := HPRE.out.ext_ he1
              have HP1 := Lib.hid hp1
              clear hp1 he1
              have hcl : c = 110 ∨ c = 119 ∨ c = 97 ∨ c = 98 ∨ c = 120 := by
                rcases hcf with h | h | h | h | h | h
                · exact .inl h
                · exact absurd h h100
                · exact .inr (.inl h)
                · exact .inr (.inr (.inl h))
                · exact .inr (.inr (.inr (.inl h)))
                · exact .inr (.inr (.inr (.inr h)))
              clear hcf
              go_wp2_with fail
              refine (word_calls s none 0 0 c (S x) gs _ HP1.out.1 (by simp [ByteArray.size]; omega) hcl).mono ?_
              rintro e w3 ⟨rfl, hb3, hc3⟩
              rw [show (S x).data.toList = x from rfl] at *
              have hp3 := HP1.out.word hb3 hc3 (by omega) (by rw [HGR.out]; omega)
              clear HPRE HP1 hb3 hc3
              have HPRE := Lib.hid hp3
              clear hp3
              cases hok : wordOk c x with
              | false =>
                have HF : Hid (parseP t.data.toList = none) := Lib.hid (by rw [HSTEP.out, if_pos hok])
                clear hok
                go_wp2_with (refine RowSt.wpList_put 46 _ _ rfl rfl rfl gr (cellsV (St.of 0) none 0 0) rfl rfl 46 _ HPRE.out.2.1 (by kernel_rfl) rfl (cells_one _ _ _ _) ?_; intro w8 hb8 hc8)
                refine bodyPost_ret (v := .tuple #[.agg (cellsV (St.of 0) none 0 0), .int .i64 21]) (RowSt.results_cell_tmp (p := 2) (q := 3) rfl _ _ gr 46 (cellsV (St.of 0) none 0 0) (0, 0) _ rfl hb8 Try.underlying46 rfl (by kernel_rfl)) rfl ?_
                refine ⟨HPRE.out.2.2.chg hc8 fun i hi => by rw [hi, ← HGR.out]; exact Nat.le_refl _, ?_⟩
                rw [HF.out]
              | true =>
                have HGO2 : Hid (ScriptP.go (f.drop (j + 1)) (wordV s c x) y m2 = parseP t.data.toList) := Lib.hid (by rw [HSTEP.out, if_neg (by rw [hok]; decide)])
                clear hok HGO
                have HD2 : Hid ((wordV s c x).data = []) := Lib.hid (by rw [← HDATA.out]; unfold wordV; repeat (first | rfl | split))
                generalize wordV s c x = s2 at *
                go_wp2_with fail
                go_roundw
                case rel => exact ⟨j + 1, s2, y, m2, by go_num, rfl, rfl, by omega, by omega, HGO2, HD2.out, HPRE⟩
                case measure => simp [intOf]; omega
        · obtain rfl : j = f.length := by omega
          have hgo := HGO.out
          rw [List.drop_length] at hgo
          cases mo with
          | true =>
            have HF : Hid (parseP t.data.toList = none) := Lib.hid (by rw [← hgo]; rfl)
            clear hgo
            go_wp2_with (refine RowSt.wpList_put 46 _ _ rfl rfl rfl gr (cellsV (St.of 0) none 0 0) rfl rfl 46 _ HPRE.out.2.1 (by kernel_rfl) rfl (cells_one _ _ _ _) ?_; intro w8 hb8 hc8)
            refine bodyPost_ret (v := .tuple #[.agg (cellsV (St.of 0) none 0 0), .int .i64 21]) (RowSt.results_cell_tmp (p := 2) (q := 3) rfl _ _ gr 46 (cellsV (St.of 0) none 0 0) (0, 0) _ rfl hb8 Try.underlying46 rfl (by kernel_rfl)) rfl ?_
            refine ⟨HPRE.out.2.2.chg hc8 fun i hi => by rw [hi, ← HGR.out]; exact Nat.le_refl _, ?_⟩
            rw [HF.out]
          | false =>
            have HF : Hid (parseP t.data.toList = some s) := Lib.hid (by rw [← hgo]; rfl)
            clear hgo
            go_wp2_with (first | (refine wpList_load_row rfl 46 _ rfl gs rfl 46 (cellsV s none 0 0) (0, 0) _ HPRE.out.1 Try.underlying46 rfl (by kernel_rfl) ?_) | (refine RowSt.wpList_put 46 _ _ rfl rfl rfl gr (cellsV s none 0 0) rfl rfl 46 _ HPRE.out.2.1 (by kernel_rfl) rfl (cells_one _ _ _ _) ?_; intro w8 hb8 hc8))
            refine bodyPost_ret (v := .tuple #[.agg (cellsV s none 0 0), .int .i64 0]) (RowSt.results_cell_tmp (p := 2) (q := 3) rfl _ _ gr 46 (cellsV s none 0 0) (0, 0) _ rfl hb8 Try.underlying46 rfl (by kernel_rfl)) rfl ?_
            refine ⟨HPRE.out.2.2.chg hc8 fun i hi => by rw [hi, ← HGR.out]; exact Nat.le_refl _, ?_⟩
            rw [HF.out]
            exact ⟨none, 0, 0, rfl, by rw [HDATA.out]; exact rd_nil _ _ _⟩
end Go.Proofs.Ytfhgjopoohfhjaa.Script
