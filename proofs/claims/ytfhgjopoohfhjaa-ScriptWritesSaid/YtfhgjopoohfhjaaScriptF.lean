/- A builder of strings that the call has made, walked. -/
import Derived.Test.YtfhgjopoohfhjaaScriptE
import Derived.Test.YtfhgjopoohfhjaaShelfB
import Derived.Lib.Strings
import Derived.Lib.Slices
import Derived.Lib.Walk
import Derived.Lib.Builder
import Derived.Lib.AppendStr
import Derived.Lib.UnsafeStr
import Derived.Laws.Externs
import Derived.Laws.AppendOwn
import Derived.Laws.Append
namespace Go.Proofs.Ytfhgjopoohfhjaa.Script
open Go.RowKit Base Step Vec
open ScriptP (L)
/-- A builder in block b of S that holds the cells bs, its bytes in a block of S too. -/
structure BldP (S : Nat → Prop) (b : Nat) (bs : List Value) (w : World) (p : Option Addr) : Prop where
  mem : S b
  at_ : ∃ A c, w.heap[b]? = some (.cells #[.pointer p, .slice A bs.length c] 251 (0, 0)) ∧ Own w S 5 1 (.slice A bs.length c) bs.length bs
def Bld (S : Nat → Prop) (b : Nat) (bs : List Value) (w : World) : Prop := BldP S b bs w none ∨ BldP S b bs w (some ⟨b, 0, none⟩)
theorem BldP.ext {S : Nat → Prop} {b : Nat} {bs : List Value} {w w' : World} {p : Option Addr} (h : BldP S b bs w p) (he : Ext w w') : BldP S b bs w' p := by
  obtain ⟨A, c, hb, ho⟩ := h.at_
  exact ⟨h.mem, A, c, he.at_ hb, ho.extNew he⟩
theorem Bld.ext {S : Nat → Prop} {b : Nat} {bs : List Value} {w w' : World} (h : Bld S b bs w) (he : Ext w w') : Bld S b bs w' := h.imp (·.ext he) (·.ext he)
theorem BldP.mono {S S' : Nat → Prop} {b : Nat} {bs : List Value} {w : World} {p : Option Addr} (h : BldP S b bs w p) (hs : ∀ i, i < w.heap.size → S i → S' i) : BldP S' b bs w p := by
  obtain ⟨A, c, hb, ho⟩ := h.at_
  exact ⟨hs b (Array.getElem?_eq_some_iff.1 hb).1 h.mem, A, c, hb, ho.mono hs⟩
theorem Bld.mono {S S' : Nat → Prop} {b : Nat} {bs : List Value} {w : World} (h : Bld S b bs w) (hs : ∀ i, i < w.heap.size → S i → S' i) : Bld S' b bs w := h.imp (·.mono hs) (·.mono hs)
theorem BldP.is_ {S : Nat → Prop} {b : Nat} {bs : List Value} {w : World} {p : Option Addr} (h : BldP S b bs w p) {B : Nat} (hs : ∀ i, S i → B ≤ i) : Lib.BuilderAt 251 5 B b (.pointer p) bs w := by
  obtain ⟨A, c, hb, ho⟩ := h.at_
  refine ⟨hs b h.mem, _, hb, ⟨ho.row.1, ?_⟩, ho.ne hb (by decide)⟩
  rcases ho.row.2 with h2 | ⟨g, cap, cur, e, _, hh, h3⟩
  · exact .inl h2
  · exact .inr ⟨g, cap, cur, e, hs g (ho.foot g (by rw [e]; rfl)), hh, h3⟩
theorem Bld.is_ {S : Nat → Prop} {b : Nat} {bs : List Value} {w : World} (h : Bld S b bs w) {B : Nat} (hs : ∀ i, S i → B ≤ i) : Lib.IsBuilder 251 5 B b bs w := h.imp (·.is_ hs) (·.is_ hs)
theorem bld_new (S : Nat → Prop) (w : World) (h : S w.heap.size) : Bld S w.heap.size [] (w.alloc (.cells #[.pointer none, .slice none 0 0] 251)) :=
  .inl ⟨h, none, 0, heap_alloc_new w _, Own.nil _ _ _ _⟩
section
variable {P : Program}
/-- An append of a text's bytes to a row of one's own. -/
theorem wpList_appS {ops : Array Oper} {rest : List Oper} {o : Oper} {a : Act} {Q : Exit → Act → World → Prop} (w : World) (hgd : Region.wanted o (yielded ops a.tmps) = true) (s x : Operand) (t u : TypeId)
    (ho : o.op = .call { callee := .builtin .append, args := #[s, x], argTypes := #[t, u] })
    (S : Nat → Prop) (e : TypeId) (ht : P.underlying t = some (.slice e)) (hu : P.underlying u = some .string) (hinfo : (P.info? e).map (fun i => (i.zero, i.size, i.bytes)) = some (some (.int .u8 0), 1, 1))
    (v : Value) (n : Nat) (xs : List Value) (hs : a.eval s = v) (hown : Own w S e 1 v n xs) (b : ByteArray) (hx : a.eval x = .string b)
    (hbytes : n + b.size ≤ 140737488355328) (hS : ∀ i, w.heap.size ≤ i → S i)
    (h : ∀ A' c' w', Own w' S e 1 (.slice A' (n + b.size) c') (n + b.size) (xs ++ Lib.strCells b) → Chg (fun i => v.ownBlock = some i) w w' → wpList P ops Q rest (a.put o.dst (.slice A' (n + b.size) c')) w') : wpList P ops Q (o :: rest) a w := by
  refine wpList_step fun K hK => ?_
  rw [if_pos hgd]
  obtain ⟨i, hi, hz, hsize, hby⟩ := info_parts hinfo
  obtain ⟨v', w', hrun, h2, h3, h4⟩ := Lib.run_append_own_string (P := P) w 0 t u o.type e i ht hu hi hz hsize hby v n xs hown.row b (by simp only [maxLen]; omega) hbytes (Nat.zero_le _)
  have h5 : v'.ownBlock = v.ownBlock ∨ v'.ownBlock = some w.heap.size := by
    have hxl : xs.length = n := by simpa using hown.row.1
    rcases hown.row.2 with ⟨rfl, rfl⟩ | ⟨g, cap, cur, rfl, _, hg, hnc, hcm, hcs, _⟩
    · by_cases hm : b.size = 0
      · exact .inl (by rw [h4.2 ⟨rfl, hm⟩])
      · have hr := run_append_nil_string (P := P) w t u o.type e i (.int .u8 0) ht hu hi hz b (by omega) (by omega) (by rw [hby]; omega)
        rw [hrun] at hr
        cases hr
        exact .inr rfl
    · by_cases hroom : n + b.size ≤ cap
      · have hcs' : cur.size = cap := by simpa using hcs
        have hr := Lib.run_append_room_string (P := P) w t u o.type e i ht hu hi hsize g n cap cur hg b hroom (by omega)
        rw [hrun] at hr
        cases hr
        exact .inl rfl
      · have holds : ∀ j u, xs[j]? = some u → w.cell? ((⟨g, 0, none⟩ : Addr).add j) = some u := hown.row.cells (g := g) rfl
        have hr := Lib.run_append_grow_string (P := P) w t u o.type e i (.int .u8 0) ht hu hi hz ⟨g, 0, none⟩ n cap xs (by rw [hsize]; simpa using hxl) holds b (by omega) (by omega) (by rw [hby]; exact growslice_fits (by omega) (by omega))
        rw [hrun] at hr
        cases hr
        exact .inr rfl
  obtain ⟨A', c', rfl⟩ := own_slice h2
  unfold Oper.wp execOp
  simp only [ho, resolve, invoke, builtin, Sem.run_bind, Sem.run_pure, Result.andThen_ok, List.map_toArray, List.map_cons, List.map_nil, hs, hx, hrun]
  refine hK _ _ (h A' c' w' ⟨h2, fun k hk => ?_⟩ ((Chg.refl _ _).grown h3 fun k hk => hk))
  rcases h5 with h5 | h5
  · exact hown.foot k (by rw [← h5]; exact hk)
  · rw [h5] at hk
    cases hk
    exact hS _ (Nat.le_refl _)
end
set_option maxHeartbeats 1000000 in
set_option maxRecDepth 100000 in
theorem copyCheck_used (b : Nat) (w : World) (h0 : w.cell? ⟨b, 0, none⟩ = some (.pointer (some ⟨b, 0, none⟩))) :
    Calls Try.prog 202 #[.pointer (some ⟨b, 0, none⟩)] w fun e w' => e = .returned (.tuple #[]) ∧ w' = w := by
  obtain ⟨j, hj, _⟩ := Option.map_eq_some_iff.1 Shelf.extra169.sizeBuilder
  go_enter Try.func202, Try.ntmps202
  go_wp2
  rw [Lib.run_neq_ptr_same w _ Try.underlying249 hj]
  go_wp2
  go_end0
  exact ⟨rfl, rfl⟩
set_option maxHeartbeats 1000000 in
set_option maxRecDepth 100000 in
theorem copyCheck_fresh (b : Nat) (w : World) (h0 : w.cell? ⟨b, 0, none⟩ = some (.pointer none)) (hsh : w.shape? b = some (251, 2)) (hfz : w.frozen? ⟨b, 0, none⟩ = false) :
    Calls Try.prog 202 #[.pointer (some ⟨b, 0, none⟩)] w fun e w' => e = .returned (.tuple #[]) ∧ w' = w.setCell ⟨b, 0, none⟩ (.pointer (some ⟨b, 0, none⟩)) := by
  obtain ⟨j, hj, hjs⟩ := Option.map_eq_some_iff.1 Shelf.extra169.sizeBuilder
  go_enter Try.func202, Try.ntmps202
  go_wp2
  rw [Lib.run_to_unsafe w ⟨b, 0, none⟩ Try.underlying249 Try.underlying303 hj (by rw [hjs]; decide) hsh (Nat.zero_lt_succ 1)]
  simp only [Result.andThen]
  rw [Oper.upon_value]
  go_wp2
  rw [run_callFunc_extern Try.func220 (by kernel_rfl) (by kernel_rfl) (by kernel_rfl) (e := Extern.AbiNoEscape.same) (by kernel_rfl)]
  rw [Lib.run_noEscape]
  simp only [Result.andThen]
  rw [Oper.upon_value]
  go_wp2
  rw [Lib.run_from_unsafe w ⟨b, 0, none⟩ Try.underlying303 Try.underlying249 hj hsh Shelf.extra169.liesBuilder]
  simp only [Result.andThen]
  rw [Oper.upon_value]
  go_wp2
  go_end0
  exact ⟨rfl, rfl⟩
theorem copyCheck_calls (S : Nat → Prop) (b : Nat) (bs : List Value) (w : World) (h : Bld S b bs w) :
    Calls Try.prog 202 #[.pointer (some ⟨b, 0, none⟩)] w fun e w' => e = .returned (.tuple #[]) ∧ BldP S b bs w' (some ⟨b, 0, none⟩) ∧ Chg S w w' := by
  rcases h with h | h
  · obtain ⟨A, c, hb, ho⟩ := h.at_
    refine (copyCheck_fresh b w (blk_cell (i := 0) hb (Ext.refl _) rfl) (by simp [World.shape?, hb]) (Pack.free_of hb 0)).mono ?_
    rintro e w' ⟨rfl, rfl⟩
    exact ⟨rfl, ⟨h.mem, A, c, set_blk (i := 0) hb _, own_put ho hb (by decide)⟩, Chg.setCell (Chg.refl S w) (p := ⟨b, 0, none⟩) h.mem _⟩
  · obtain ⟨A, c, hb, ho⟩ := h.at_
    refine (copyCheck_used b w (blk_cell (i := 0) hb (Ext.refl _) rfl)).mono ?_
    rintro e w' ⟨rfl, rfl⟩
    exact ⟨rfl, h, Chg.refl S _⟩
theorem infoB : (Try.prog.info? 5).map (fun i => (i.zero, i.size, i.bytes)) = some (some (.int .u8 0), 1, 1) := by kernel_rfl
/-- What an append leaves of a builder: the new row is stored. -/
theorem bld_put {S : Nat → Prop} {b : Nat} {p : Option Addr} {cs : List Value} {A A' : Option Addr} {n m c c' : Nat} {w w' : World} (hm : S b) (hb : w.heap[b]? = some (.cells #[.pointer p, .slice A n c] 251 (0, 0)))
    (hg : Chg (fun i => (Value.slice A n c).ownBlock = some i) w w') (hne : (Value.slice A n c).ownBlock ≠ some b) (ho : Own w' S 5 1 (.slice A' m c') m cs) (hl : cs.length = m) :
    w'.heap[b]? = some (.cells #[.pointer p, .slice A n c] 251 (0, 0)) ∧ BldP S b cs (w'.setCell ⟨b, 1, none⟩ (.slice A' m c')) p := by
  have hb2 := hg.at_ hb hne
  subst hl
  exact ⟨hb2, hm, A', c', set_blk (i := 1) hb2 _, own_put ho hb2 (by decide)⟩
set_option maxHeartbeats 2000000 in
set_option maxRecDepth 100000 in
theorem writeByte_calls (S : Nat → Prop) (b : Nat) (bs : List Value) (c : Int) (w : World) (h : Bld S b bs w) (hlen : bs.length + 1 ≤ 140737488355328) (hS : ∀ i, w.heap.size ≤ i → S i) :
    Calls Try.prog 161 #[.pointer (some ⟨b, 0, none⟩), .int .u8 c] w fun e w' => e = .returned .nilIface ∧ Bld S b (bs ++ [.int .u8 c]) w' ∧ Chg S w w' := by
  go_enter Try.func161, Try.ntmps161
  go_wp2_with fail
  refine (copyCheck_calls S b bs _ h).mono ?_
  rintro e w1 ⟨rfl, h1, hc1⟩
  obtain ⟨A, cp, hb, hown⟩ := h1.at_
  have hm := h1.mem
  clear h1 h
  have c1 := blk_cell (i := 1) hb (Ext.refl _) rfl
  have HB := Lib.hid hb
  have HC := Lib.hid hc1
  have hne := hown.ne hb (by decide)
  clear hb hc1
  go_wp2_with (at_builtin; refine wpList_appV _ rfl _ _ 22 rfl S 5 (.int .u8 0) 1 1 Try.underlying22 infoB rfl (by decide) (by decide) _ _ _ rfl (hown.extNew (Ext.new w1 _)) (some ⟨w1.heap.size, 0, none⟩) 1 1 [.int .u8 c] rfl rfl (by simp) ?c1 ?c2 ?c3 ?c4 ?_)
  case c1 =>
    intro ad e j u hj
    cases e
    match j, hj with
    | 0, hj => simp at hj; subst hj; simp [Addr.add]
  case c2 => intro u hu; simp at hu; subst hu; rfl
  case c3 => omega
  case c4 => intro i hi; have := HC.out.size; simp at hi; exact hS i (by omega)
  intro A' c' w2 hown' hg
  obtain ⟨hb2, h2⟩ := bld_put hm ((Ext.new w1 _).at_ HB.out) hg hne hown' (by simp)
  have f1 := Pack.free_of hb2 1
  have d1 := blk_cell (i := 1) hb2 (Ext.refl _) rfl
  have H2 := Lib.hid h2
  have HG := Lib.hid hg
  clear h2 hg
  go_wp2
  go_ret
  exact ⟨rfl, .inr H2.out, (HC.out.alloc _).trans (Chg.setCell ((HG.out).mono fun i _ e => hown.foot i e) (p := ⟨b, 1, none⟩) hm _)⟩
set_option maxHeartbeats 2000000 in
set_option maxRecDepth 100000 in
theorem writeString_calls (S : Nat → Prop) (b : Nat) (bs : List Value) (s : ByteArray) (w : World) (h : Bld S b bs w) (hlen : bs.length + s.size ≤ 140737488355328) (hS : ∀ i, w.heap.size ≤ i → S i) :
    Calls Try.prog 160 #[.pointer (some ⟨b, 0, none⟩), .string s] w fun e w' => e = .returned (.tuple #[.int .i64 s.size, .nilIface]) ∧ Bld S b (bs ++ Lib.strCells s) w' ∧ Chg S w w' := by
  go_enter Try.func160, Try.ntmps160
  go_wp2_with fail
  refine (copyCheck_calls S b bs _ h).mono ?_
  rintro e w1 ⟨rfl, h1, hc1⟩
  obtain ⟨A, cp, hb, hown⟩ := h1.at_
  have hm := h1.mem
  clear h1 h
  have c1 := blk_cell (i := 1) hb (Ext.refl _) rfl
  have HB := Lib.hid hb
  have HC := Lib.hid hc1
  have hne := hown.ne hb (by decide)
  clear hb hc1
  go_wp2_with (at_builtin; refine wpList_appS _ rfl _ _ 22 9 rfl S 5 Try.underlying22 Try.underlying9 infoB _ _ _ rfl hown s rfl ?c3 ?c4 ?_)
  case c3 => omega
  case c4 => intro i hi; have := HC.out.size; exact hS i (by omega)
  intro A' c' w2 hown' hg
  obtain ⟨hb2, h2⟩ := bld_put hm HB.out hg hne hown' (by simp [Lib.strCells_length])
  have f1 := Pack.free_of hb2 1
  have d1 := blk_cell (i := 1) hb2 (Ext.refl _) rfl
  have H2 := Lib.hid h2
  have HG := Lib.hid hg
  clear h2 hg
  go_wp2
  go_ret2
  exact ⟨rfl, .inr H2.out, HC.out.trans (Chg.setCell ((HG.out).mono fun i _ e => hown.foot i e) (p := ⟨b, 1, none⟩) hm _)⟩
set_option maxHeartbeats 2000000 in
set_option maxRecDepth 100000 in
theorem writeBytes_calls (S : Nat → Prop) (b : Nat) (bs : List Value) (A0 : Option Addr) (m c0 : Nat) (news : List Value) (w : World) (h : Bld S b bs w) (hl : news.length = m) (hA : A0 = none → m = 0) (hnews : ∀ ad, A0 = some ad → ∀ j u, news[j]? = some u → w.cell? (ad.add j) = some u) (hoff : ∀ ad, A0 = some ad → 0 < m → ¬ S ad.block) (h1 : ∀ u ∈ news, u.oneCell' = true)
    (hlen : bs.length + m ≤ 140737488355328) (hS : ∀ i, w.heap.size ≤ i → S i) :
    Calls Try.prog 162 #[.pointer (some ⟨b, 0, none⟩), .slice A0 m c0] w fun e w' => e = .returned (.tuple #[.int .i64 m, .nilIface]) ∧ Bld S b (bs ++ news) w' ∧ Chg S w w' := by
  go_enter Try.func162, Try.ntmps162
  go_wp2_with fail
  refine (copyCheck_calls S b bs _ h).mono ?_
  rintro e w1 ⟨rfl, h1', hc1⟩
  obtain ⟨A, cp, hb, hown⟩ := h1'.at_
  have hm := h1'.mem
  clear h1' h
  have c1 := blk_cell (i := 1) hb (Ext.refl _) rfl
  have hnews1 : ∀ ad, A0 = some ad → ∀ j u, news[j]? = some u → w1.cell? (ad.add j) = some u := fun ad e j u hj => by
    have hm : 0 < m := by have := (List.getElem?_eq_some_iff.1 hj).1; omega
    exact hc1.cell (hnews ad e j u hj) (by rw [block_add]; exact hoff ad e hm)
  have HB := Lib.hid hb
  have HC := Lib.hid hc1
  have hne := hown.ne hb (by decide)
  clear hb hc1
  go_wp2_with (at_builtin; refine wpList_appV _ rfl _ _ 22 rfl S 5 (.int .u8 0) 1 1 Try.underlying22 infoB rfl (by decide) (by decide) _ _ _ rfl hown A0 m c0 news rfl (by omega) hA hnews1 h1 ?c3 ?c4 ?_)
  case c3 => omega
  case c4 => intro i hi; have := HC.out.size; exact hS i (by omega)
  intro A' c' w2 hown' hg
  obtain ⟨hb2, h2⟩ := bld_put hm HB.out hg hne hown' (by simp [hl])
  have f1 := Pack.free_of hb2 1
  have d1 := blk_cell (i := 1) hb2 (Ext.refl _) rfl
  have H2 := Lib.hid h2
  have HG := Lib.hid hg
  clear h2 hg
  go_wp2
  go_ret2
  exact ⟨rfl, .inr H2.out, HC.out.trans (Chg.setCell ((HG.out).mono fun i _ e => hown.foot i e) (p := ⟨b, 1, none⟩) hm _)⟩
end Go.Proofs.Ytfhgjopoohfhjaa.Script
