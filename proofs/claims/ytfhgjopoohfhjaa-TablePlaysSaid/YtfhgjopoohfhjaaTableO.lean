/- The law's operations, made the program's: to. Rows told apart. New tables. -/
import Derived.Test.YtfhgjopoohfhjaaTableN
namespace Go.Proofs.Ytfhgjopoohfhjaa.Tbl
open Go.RowKit Base Step Vec Shape Erase
theorem Made.ok {w w' : World} {A A' : Option Addr} {n c oc : Nat} {l l' : List Row} (h : Made w w' l l' n A' oc) (ho : (Sh.sl rowS).ok w (A, n, c, l)) : (Sh.sl rowS).ok w' (A', n, oc, l') := by
  have hl := (sl_len ho).1
  refine ok_own (W := w') (e := rowS) h.prow (by decide) h.len (fun r' hr' => ?_) (fun a v _ hc => hc) (own_max h.prow)
  obtain ⟨i, hi, hir⟩ := List.getElem_of_mem hr'
  have hi2 : i < l.length := by rw [hl, ← h.len]; exact hi
  obtain ⟨r, hr⟩ : ∃ r, l[i]? = some r := ⟨_, List.getElem?_eq_getElem hi2⟩
  obtain ⟨⟨ha1, ha2⟩, hn⟩ := h.alike i r r' hr (by rw [List.getElem?_eq_getElem hi, hir])
  have hrok : (Sh.sl plS).ok w (rA r, rN r, rC r, rP r) := sl_each ho hr
  have hrl := (sl_len hrok).1
  refine ok_own (W := w') (e := plS) hn (by decide) (by show (rP r').length = rN r'; rw [ha2, ha1]; exact hrl) (fun x hx => ?_) (fun a v _ hc => hc) (own_max hn)
  have hx : x ∈ rP r' := hx
  rw [ha2] at hx
  obtain ⟨j, hj, hjx⟩ := List.getElem_of_mem hx
  have hok : plS.ok w x := sl_each hrok (i := j) (x := x) (by rw [List.getElem?_eq_getElem hj, hjx])
  exact pl_any hok
/-- The rows that places makes. -/
def madeL (w0 : World) (l : List Row) (n : Nat) : Lex.Loose := ⟨fun v => ∃ A c, v = .slice A n c, fun v W => ∀ A c, v = .slice A n c → ∃ l', Made w0 W l l' n A c⟩
theorem madeL_st {w0 : World} {l : List Row} {n : Nat} : (madeL w0 l n).St Ext := fun _ _ _ h he A c e => by
  obtain ⟨l', hm⟩ := h A c e
  exact ⟨l', hm.extNew he⟩
theorem Made.from {w0 w w' : World} {l l' : List Row} {n c : Nat} {A : Option Addr} (h : Made w w' l l' n A c) (he : Ext w0 w) : Made w0 w' l l' n A c :=
  ⟨h.len, h.prow.mono fun i _ k => Nat.le_trans he.size k, fun i r r' h1 h2 => ⟨(h.alike i r r' h1 h2).1, Own.mono (h.alike i r r' h1 h2).2 fun i _ k => Nat.le_trans he.size k⟩, he.trans h.ext⟩
theorem Made.kind {w w' w2 : World} {l l' : List Row} {n c : Nat} {A : Option Addr} {S : Nat → Prop} (h : Made w w' l l' n A c) (hc : Chg S w' w2) (hk : ∀ i, S i → i < w'.heap.size → ∃ c e f, w'.heap[i]? = some (.cells c e f) ∧ e ≠ 218 ∧ e ≠ 118) (hS : ∀ i, S i → w.heap.size ≤ i) : Made w w2 l l' n A c :=
  ⟨h.len, Own.kind h.prow hc fun i hi hlt => by obtain ⟨c, e, f, h1, h2, h3⟩ := hk i hi hlt; exact ⟨c, e, f, h1, Ne.symm h2⟩, fun i r r' h1 h2 => ⟨(h.alike i r r' h1 h2).1, Own.kind (h.alike i r r' h1 h2).2 hc fun i hi hlt => by obtain ⟨c, e, f, h1, h2, h3⟩ := hk i hi hlt; exact ⟨c, e, f, h1, Ne.symm h3⟩⟩, h.ext.chg hc hS⟩
/-- An operation with other rows. -/
def withRows (o : Op) (A : Option Addr) (c : Nat) (l : List Row) : Op := { o with A := A, cap := c, rows := l }
set_option maxRecDepth 100000 in
set_option maxHeartbeats 4000000 in
theorem to_calls (o : Op) (w : World) (h : OpAt w o) (hn : o.n ≤ 1000) :
    Calls Try.prog 64 #[opV o] w fun e w' => ∃ A' c' l', e = .returned (opV (withRows o A' c' l')) ∧ Made w w' o.rows l' o.n A' c' := by
  have e0 := Lib.hid ((Ext.new w (.cells (opC o) 116)).alloc (.cells #[.int .i64 0, .int .u32 0, .string ⟨#[]⟩, .int .i64 0, .int .i64 0, .int .i64 0, .slice none 0 0, .int .i64 0, .int .i64 0, .int .i64 0, .int .u32 0] 120))
  have hb := (Ext.new (w.alloc (.cells (opC o) 116)) (.cells #[.int .i64 0, .int .u32 0, .string ⟨#[]⟩, .int .i64 0, .int .i64 0, .int .i64 0, .slice none 0 0, .int .i64 0, .int .i64 0, .int .i64 0, .int .u32 0] 120)).at_ (at_new w (.cells (opC o) 116))
  have hz := at_new (w.alloc (.cells (opC o) 116)) (.cells #[.int .i64 0, .int .u32 0, .string ⟨#[]⟩, .int .i64 0, .int .i64 0, .int .i64 0, .slice none 0 0, .int .i64 0, .int .i64 0, .int .i64 0, .int .u32 0] 120)
  have hsz : (w.alloc (.cells (opC o) 116)).heap.size = w.heap.size + 1 := by simp
  rw [hsz] at hz
  clear hsz
  have H := Lib.hid h
  clear h
  go_enter Try.func64, Try.ntmps64
  go_upto_region 1 with fail
  generalize (w.alloc (.cells (opC o) 116)).alloc (.cells #[.int .i64 0, .int .u32 0, .string ⟨#[]⟩, .int .i64 0, .int .i64 0, .int .i64 0, .slice none 0 0, .int .i64 0, .int .i64 0, .int .i64 0, .int .u32 0] 120) = w1 at *
  have HZ := Lib.hid hz
  have z0 : ∀ W, Ext w1.drew W → W.cell? ⟨w.heap.size, 0, none⟩ = some (.int .i64 o.kind) := fun W hW => blk_cell (i := 0) hb (drew_ext hW) rfl
  have z1 : ∀ W, Ext w1.drew W → W.cell? ⟨w.heap.size, 1, none⟩ = some (.int .u32 o.num) := fun W hW => blk_cell (i := 1) hb (drew_ext hW) rfl
  have z2 : ∀ W, Ext w1.drew W → W.cell? ⟨w.heap.size, 2, none⟩ = some (.string o.name) := fun W hW => blk_cell (i := 2) hb (drew_ext hW) rfl
  have z3 : ∀ W, Ext w1.drew W → W.cell? ⟨w.heap.size, 3, none⟩ = some (.int .i64 o.l) := fun W hW => blk_cell (i := 3) hb (drew_ext hW) rfl
  have z4 : ∀ W, Ext w1.drew W → W.cell? ⟨w.heap.size, 4, none⟩ = some (.int .i64 o.c) := fun W hW => blk_cell (i := 4) hb (drew_ext hW) rfl
  have z5 : ∀ W, Ext w1.drew W → W.cell? ⟨w.heap.size, 5, none⟩ = some (.int .i64 o.p) := fun W hW => blk_cell (i := 5) hb (drew_ext hW) rfl
  have z6 : ∀ W, Ext w1.drew W → W.cell? ⟨w.heap.size, 6, none⟩ = some (.slice o.A o.n o.cap) := fun W hW => blk_cell (i := 6) hb (drew_ext hW) rfl
  have z7 : ∀ W, Ext w1.drew W → W.cell? ⟨w.heap.size, 7, none⟩ = some (.int .i64 o.stripe) := fun W hW => blk_cell (i := 7) hb (drew_ext hW) rfl
  have z8 : ∀ W, Ext w1.drew W → W.cell? ⟨w.heap.size, 8, none⟩ = some (.int .i64 o.slot) := fun W hW => blk_cell (i := 8) hb (drew_ext hW) rfl
  have z9 : ∀ W, Ext w1.drew W → W.cell? ⟨w.heap.size, 9, none⟩ = some (.int .i64 o.node) := fun W hW => blk_cell (i := 9) hb (drew_ext hW) rfl
  have z10 : ∀ W, Ext w1.drew W → W.cell? ⟨w.heap.size, 10, none⟩ = some (.int .u32 o.gen) := fun W hW => blk_cell (i := 10) hb (drew_ext hW) rfl
  clear hb hz
  have hsR : (madeL w1 o.rows o.n).St Ext := madeL_st
  refine Lex.wp_region_u [0, 1, 2, 3, 4, 5, 6, 7, 8, 9, 10, 11, 12, 13, 14, 15, 16, 17, 18, 19, 20, 21, 22, 23, 24, 25, 26, 27, 28, 29, 30] [31] [(18, madeL w1 o.rows o.n)] (by kernel_rfl) (by kernel_rfl) (by repeat (first | exact Lex.st_nil | refine Lex.st_cons (by first | exact Lex.nums_st | exact Lex.const_st | exact Lex.such_st | exact Lex.row_st | exact Lex.rowE_st | exact Lex.litR_st | assumption) ?_)) ?_; simp only [Lex.pick, List.getElem?_cons_succ, List.getElem?_cons_zero, List.map_cons, List.map_nil]
  repeat (first | (refine Lex.lexU_skip (by rfl) ?_; simp only [Act.put, List.setIfInBounds_toArray, List.set_cons_zero, List.set_cons_succ]) | (refine Lex.lexU_still (by rfl) (by rfl) (by first | exact Base.Ext.refl | exact Lex.Fill.refl) ?_; apply Exists.intro; refine ⟨fun W hW => ?_, ?_⟩; (have hE := Lex.ext_of_cls hW.1; have hE2 := Lex.ext_drew hE; clear hW; go_simp; try with_reducible rfl); simp only [Act.put, List.setIfInBounds_toArray, List.set_cons_zero, List.set_cons_succ]))
  refine Lex.lexU_loose (by rfl) (by rfl) (fun W hW => ?_) ?_
  · have hE := Lex.ext_drew (Lex.ext_of_cls hW.1)
    clear hW
    go_simp
    refine (places_calls o.A o.n o.cap o.rows _ (Sh.ok_ext (e0.out.trans hE) _ _ H.out.rows) hn H.out.each).mono ?_
    rintro e w8 ⟨A8, c8, l8, rfl, hm8⟩
    exact ⟨_, rfl, ⟨A8, c8, rfl⟩, hm8.ext, fun A c e => by cases e; exact ⟨l8, hm8.from hE⟩⟩
  rintro v ⟨A9, c9, rfl⟩
  simp only [Act.put, List.setIfInBounds_toArray, List.set_cons_zero, List.set_cons_succ]
  repeat (first | (refine Lex.lexU_skip (by rfl) ?_; simp only [Act.put, List.setIfInBounds_toArray, List.set_cons_zero, List.set_cons_succ]) | (refine Lex.lexU_still (by rfl) (by rfl) (by first | exact Base.Ext.refl | exact Lex.Fill.refl) ?_; apply Exists.intro; refine ⟨fun W hW => ?_, ?_⟩; (have hE := Lex.ext_of_cls hW.1; have hE2 := Lex.ext_drew hE; clear hW; go_simp; try with_reducible rfl); simp only [Act.put, List.setIfInBounds_toArray, List.set_cons_zero, List.set_cons_succ]))
  refine Lex.lexU_nil (fun W hW => ?_)
  have hE := Lib.hid (Lex.ext_drew hW.1)
  obtain ⟨l', hm⟩ := (hW.2 18).2 rfl _ _ rfl
  have HM := Lib.hid (hm.from e0.out)
  clear hW z0 z1 z2 z3 z4 z5 z6 z7 z8 z9 z10 hm
  go_wp2_with (refine RowSt.wpList_put 120 _ _ rfl rfl rfl (w.heap.size + 1) (opC (withRows o A9 c9 l')) rfl rfl 120 _ (hE.out.at_ HZ.out) (by kernel_rfl) rfl (by simp [Value.oneCell']) ?_; intro w12 hb12 hc12)
  try simp only [Lex.onlyN]
  have hm12 := HM.out.kind hc12 (fun i hi _ => by
    have hi : i = w.heap.size + 1 := hi
    subst hi
    exact ⟨_, _, _, hE.out.at_ HZ.out, by decide, by decide⟩) fun i hi => by have hi : i = w.heap.size + 1 := hi; omega
  have HM12 := Lib.hid hm12
  clear hm12 hc12
  go_wp2_with fail
  refine bodyPost_ret (v := opV (withRows o A9 c9 l')) (results_cell_row rfl _ _ (w.heap.size + 1) 120 _ (0, 0) _ rfl hb12 Try.underlying120 rfl (by kernel_rfl)) rfl ?_
  exact ⟨A9, c9, l', rfl, HM12.out⟩
theorem withRows_ok {w w' : World} {o : Op} {A : Option Addr} {c : Nat} {l : List Row} (h : OpAt w o) (hm : Made w w' o.rows l o.n A c) : OpAt w' (withRows o A c l) :=
  ⟨h.num, h.name, h.l, h.c, h.p, hm.ok h.rows, h.few, fun r hr => by
    have hl := (sl_len h.rows).1
    have hr : r ∈ l := hr
    obtain ⟨i, hi, hir⟩ := List.getElem_of_mem hr
    obtain ⟨r0, hr0⟩ : ∃ r0, o.rows[i]? = some r0 := ⟨_, List.getElem?_eq_getElem (by rw [hl, ← hm.len]; exact hi)⟩
    obtain ⟨⟨ha1, _⟩, _⟩ := hm.alike i r0 r hr0 (by rw [List.getElem?_eq_getElem hi, hir])
    rw [ha1]
    exact h.each r0 (List.mem_of_getElem? hr0), h.gen, h.node⟩
end Go.Proofs.Ytfhgjopoohfhjaa.Tbl
