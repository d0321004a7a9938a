/- A copy of an object, walked: its rows are new, in blocks apart. -/
import Derived.Test.YtfhgjopoohfhjaaTableC
import Derived.Test.YtfhgjopoohfhjaaLexU
import Derived.Test.YtfhgjopoohfhjaaFill
namespace Go.Proofs.Ytfhgjopoohfhjaa.Tbl
open Go.RowKit Base Step Vec Shape Erase
/-- A row as it stands in memory: its places in a block newer than w0. -/
def RowNew (w0 w : World) (r : Row) : Prop := New w0 w 118 2 (rA r) (rN r) (rC r) (cellsL plS (rP r))
/-- Rows in blocks apart. -/
def Apart (l : List Row) : Prop := ∀ (i j : Nat) (r r' : Row), i < j → l[i]? = some r → l[j]? = some r' → ∀ a b, rA r = some a → rA r' = some b → a.block ≠ b.block
/-- Two rows say the same. -/
def Alike (r r' : Row) : Prop := rN r' = rN r ∧ rP r' = rP r
/-- A copy under way. -/
structure CL (w : World) (b0 b1 : Nat) (o : Obj) (P : Option Addr) (pc k : Nat) (done : List Row) (wr : World) : Prop where
  b0At : wr.heap[b0]? = some (.cells #[.int .u32 (num o), .string (name o), .int .i64 (plan o).1, .int .i64 (plan o).2.1, .int .i64 (plan o).2.2.1, .slice P (pN o) pc] 108 (0, 0))
  b1At : wr.heap[b1]? = some (.cells #[.int .u32 0, .string ⟨#[]⟩, .int .i64 0, .int .i64 0, .int .i64 0, .slice none 0 0] 108 (0, 0))
  prow : New w wr 218 1 P (pN o) pc (cellsL rowS (done ++ (rows o).drop k))
  dlen : done.length = k
  alike : ∀ (i : Nat) (r r' : Row), (rows o)[i]? = some r → done[i]? = some r' → Alike r r' ∧ RowNew w wr r'
  below : ∀ r ∈ done, ∀ a, rA r = some a → a.block < wr.heap.size
  apart : Apart done
  ext : Ext w wr
theorem cells_row (r : Row) : rowS.cells r = [.slice (rA r) (rN r) (rC r)] := rfl
theorem cells_set : ∀ (done : List Row) (r r' : Row) (rest : List Row), (cellsL rowS (done ++ r :: rest)).set done.length (.slice (rA r') (rN r') (rC r')) = cellsL rowS ((done ++ [r']) ++ rest)
  | [], r, r', rest => rfl
  | d :: done, r, r', rest => by
    show (.slice (rA d) (rN d) (rC d) :: cellsL rowS (done ++ r :: rest)).set (done.length + 1) _ = .slice (rA d) (rN d) (rC d) :: cellsL rowS ((done ++ [r']) ++ rest)
    rw [List.set_cons_succ, cells_set done r r' rest]
theorem row_set {w w' : World} {r : Row} (h : RowNew w w' r) {v : Value} {cs : Array Value} {p : Addr} {fr : Nat × Nat} (hb : w'.heap[p.block]? = some (.cells cs 218 fr)) : RowNew w (w'.setCell p v) r :=
  Own.keep h fun i hi => Below.heap_setCell _ _ _ _ fun e => h.ne hb (by decide) (by rw [hi, e])
/-- A row of whatever cells that a call has laid. -/
def rowF (w0 : World) (T : TypeId) (size n : Nat) (vs : List Value) : Lex.Loose := ⟨fun v => ∃ A c, v = .slice A n c, fun v W => ∀ A c, v = .slice A n c → New w0 W T size A n c vs⟩
theorem rowF_st {w0 : World} {T : TypeId} {size n : Nat} {vs : List Value} : (rowF w0 T size n vs).St Ext := fun _ _ _ h he A c e => (h A c e).extNew he
theorem rowF_mk {w0 W : World} {T : TypeId} {size n : Nat} {vs : List Value} {A : Option Addr} {c : Nat} (h : New w0 W T size A n c vs) : (rowF w0 T size n vs).R (.slice A n c) W := fun _ _ e => by cases e; exact h
/-- What a copy is. -/
structure Copied (w w' : World) (o o' : Obj) : Prop where
  num : num o' = num o
  name : name o' = name o
  plan : plan o' = plan o
  len : pN o' = pN o
  prow : New w w' 218 1 (pA o') (pN o') (pC o') (cellsL rowS (rows o'))
  rlen : (rows o').length = (rows o).length
  alike : ∀ (i : Nat) (r r' : Row), (rows o)[i]? = some r → (rows o')[i]? = some r' → Alike r r' ∧ RowNew w w' r'
  apart : Apart (rows o')
  ext : Ext w w'
/-- What an object's data asks, apart. -/
theorem obj_ok {w : World} {o : Obj} (h : objS.ok w o) : (Lit.int .u32 (num o)).wf = true ∧ (name o).size ≤ maxLen ∧ planS.ok w (plan o) ∧ plcS.ok w (pA o, pN o, pC o, rows o) := by
  obtain ⟨h1, h2, h3, h4, _⟩ : (Lit.int .u32 o.1).wf = true ∧ o.2.1.size ≤ maxLen ∧ planS.ok w o.2.2.1 ∧ plcS.ok w o.2.2.2.1 ∧ True := h
  exact ⟨h1, h2, h3, h4⟩
theorem sl_each {e : Sh} {w : World} {A : Option Addr} {n c : Nat} {l : List e.T} (h : (Sh.sl e).ok w (A, n, c, l)) {i : Nat} {x : e.T} (hx : l[i]? = some x) : e.ok w x := by
  obtain ⟨_, _, _, _, h5⟩ : l.length = n ∧ n ≤ c ∧ c ≤ maxLen ∧ (A = none → c = 0) ∧ ∀ (i : Nat) (x : e.T), l[i]? = some x → e.ok w x ∧ ∃ ad, A = some ad ∧ ∀ (j : Nat) u, (e.cells x)[j]? = some u → w.cell? (ad.add (i * e.size + j)) = some u := h
  exact (h5 i x hx).1
theorem app_at {α : Type} {l m : List α} {x : α} {k : Nat} (h : l.length = k) : (l ++ x :: m)[k]? = some x := by
  rw [List.getElem?_append_right (by omega), h, Nat.sub_self]
  rfl
theorem cellsL_one {l : List Row} {k : Nat} {r : Row} (h : l[k]? = some r) : (cellsL rowS l)[k]? = some (.slice (rA r) (rN r) (rC r)) := by
  have := cellsL_get (e := rowS) (k := 0) h (by decide)
  rw [show k * rowS.size + 0 = k by simp [Sh.size]] at this
  rw [this, cells_row]
  rfl
def mkRow (A : Option Addr) (n c : Nat) (l : List plS.T) : Row := (A, n, c, l)
/-- One row more. -/
theorem CL.step {w : World} {b0 b1 : Nat} {o : Obj} {P : Addr} {pc k : Nat} {done : List Row} {wr W : World} (h : CL w b0 b1 o (some P) pc k done wr) (hE : Ext wr W) {r : Row} (hr : (rows o)[k]? = some r) {A : Option Addr} {c : Nat} (hn : New wr W 118 2 A (rN r) c (cellsL plS (rP r))) :
    CL w b0 b1 o (some P) pc (k + 1) (done ++ [(mkRow A (rN r) c (rP r))]) (W.setCell (P.add k) (.slice A (rN r) c)) := by
  have hprow := h.prow.extNew hE
  obtain ⟨cur, _, hcur, _⟩ := own_at hprow
  have hkl : k < (rows o).length := (List.getElem?_eq_some_iff.1 hr).1
  have hdrop : (rows o).drop k = r :: (rows o).drop (k + 1) := by
    rw [List.drop_eq_getElem_cons hkl]
    rw [List.getElem?_eq_getElem hkl] at hr
    rw [Option.some.inj hr]
  have hcurb : W.heap[(P.add k).block]? = some (.cells cur 218 (0, 0)) := by rw [block_add]; exact hcur
  have hnb : ∀ i cs fr, W.heap[i]? = some (.cells cs 108 fr) → i ≠ (P.add k).block := fun i cs fr h1 e => by
    rw [e, hcurb] at h1
    cases h1
  have hw : w.heap.size ≤ wr.heap.size := h.ext.size
  have hww : wr.heap.size ≤ W.heap.size := hE.size
  refine ⟨?_, ?_, ?_, by simp [h.dlen], fun i r0 r' h0 h1 => ?_, fun r' h1 a ha => ?_, fun i j x y hij hx hy a b ha hb => ?_, ?_⟩
  · have h1 := hE.at_ h.b0At
    rw [Below.heap_setCell _ _ _ _ (hnb _ _ _ h1)]
    exact h1
  · have h1 := hE.at_ h.b1At
    rw [Below.heap_setCell _ _ _ _ (hnb _ _ _ h1)]
    exact h1
  · have h1 := own_setv hprow k (.slice A (rN r) c)
    have h2 := cells_set done r (mkRow A (rN r) c (rP r)) ((rows o).drop (k + 1))
    rw [h.dlen] at h2
    rw [hdrop] at h1
    have h3 : (cellsL rowS (done ++ r :: (rows o).drop (k + 1))).set k (.slice A (rN r) c) = cellsL rowS ((done ++ [(mkRow A (rN r) c (rP r))]) ++ (rows o).drop (k + 1)) := h2
    rw [h3] at h1
    exact h1
  · rcases Nat.lt_or_ge i done.length with hi | hi
    · rw [List.getElem?_append_left hi] at h1
      obtain ⟨k1, k2⟩ := h.alike i r0 r' h0 h1
      exact ⟨k1, row_set (Own.extNew k2 hE) hcurb⟩
    · rw [List.getElem?_append_right hi] at h1
      have hz : i - done.length = 0 := by have := (List.getElem?_eq_some_iff.1 h1).1; simp at this; omega
      rw [hz] at h1
      have h1 : (mkRow A (rN r) c (rP r)) = r' := by simpa using h1
      subst h1
      have hik : i = k := by have := h.dlen; omega
      subst hik
      rw [hr] at h0
      cases h0
      exact ⟨⟨rfl, rfl⟩, row_set (r := (mkRow A (rN r) c (rP r))) (hn.mono fun i _ hi => Nat.le_trans hw hi) hcurb⟩
  · have hs : (W.setCell (P.add k) (.slice A (rN r) c)).heap.size = W.heap.size := by simp
    rw [hs]
    rcases List.mem_append.1 h1 with h1 | h1
    · exact Nat.lt_of_lt_of_le (h.below r' h1 a ha) hww
    · simp at h1
      subst h1
      have ha : A = some a := ha
      subst ha
      obtain ⟨cur', _, h9, _⟩ := own_at hn
      exact Pack.lt_of_at h9
  · rcases Nat.lt_or_ge j done.length with hj | hj
    · rw [List.getElem?_append_left hj] at hy
      rw [List.getElem?_append_left (by omega)] at hx
      exact h.apart i j x y hij hx hy a b ha hb
    · rw [List.getElem?_append_right hj] at hy
      have hz : j - done.length = 0 := by have := (List.getElem?_eq_some_iff.1 hy).1; simp at this; omega
      rw [hz] at hy
      have hy : (mkRow A (rN r) c (rP r)) = y := by simpa using hy
      subst hy
      rw [List.getElem?_append_left (by omega)] at hx
      have h1 := h.below x (List.mem_of_getElem? hx) a ha
      have hb : A = some b := hb
      subst hb
      have h2 : wr.heap.size ≤ b.block := hn.foot _ rfl
      omega
  · refine (h.ext.trans hE).setCell ?_ _
    rw [block_add]
    exact hprow.foot _ rfl
def mkObj (o : Obj) (P : Option Addr) (n c : Nat) (l : List Row) : Obj := (o.1, o.2.1, o.2.2.1, (P, n, c, l), ())
theorem CL.copied {w : World} {b0 b1 : Nat} {o : Obj} {P : Option Addr} {pc : Nat} {done : List Row} {wr w' : World} (h : CL w b0 b1 o P pc (pN o) done wr) (hl : (rows o).length = pN o) (hc : Chg (fun i => i = b1) wr w') (hb : w.heap.size ≤ b1) : Copied w w' o (mkObj o P (pN o) pc done) := by
  have hk : ∀ e, e ≠ 108 → ∀ i, i = b1 → i < wr.heap.size → ∃ c e' f, wr.heap[i]? = some (.cells c e' f) ∧ e ≠ e' := fun e he i hi _ => by subst hi; exact ⟨_, _, _, h.b1At, he⟩
  refine ⟨rfl, rfl, rfl, rfl, ?_, by show done.length = _; rw [h.dlen, hl], fun i r r' h1 h2 => ?_, h.apart, h.ext.chg hc fun i hi => by rw [hi]; exact hb⟩
  · have h1 := h.prow
    rw [List.drop_of_length_le (by rw [hl]; exact Nat.le_refl _), List.append_nil] at h1
    exact Own.kind h1 hc (hk _ (by decide))
  · obtain ⟨k1, k2⟩ := h.alike i r r' h1 h2
    exact ⟨k1, Own.kind k2 hc (hk _ (by decide))⟩
set_option maxRecDepth 100000 in
set_option maxHeartbeats 4000000 in
theorem copied_calls (o : Obj) (w : World) (h : objS.ok w o) (hp : pN o ≤ 1099511627776) (hr : ∀ r ∈ (rows o), rN r ≤ 8796093021952) :
    Calls Try.prog 124 #[objV o] w fun e w' => ∃ o', e = .returned (objV o') ∧ Copied w w' o o' := by
  obtain ⟨_, _, _, hpl⟩ := obj_ok h
  obtain ⟨hl, hnc, hcm, hA0⟩ := sl_len hpl
  have hl : (rows o).length = pN o := hl
  have HP := Lib.hid hpl
  have HL := Lib.hid hl
  have HR := Lib.hid hr
  have HA : Hid (pA o = none → pN o = 0) := Lib.hid fun k => by have h1 : pC o = 0 := hA0 k; have h2 : pN o ≤ pC o := hnc; omega
  clear h hpl hl hr hA0
  have e0 := Lib.hid (((Ext.refl w).alloc (.cells #[.int .u32 (num o), .string (name o), .int .i64 (plan o).1, .int .i64 (plan o).2.1, .int .i64 (plan o).2.2.1, .slice (pA o) (pN o) (pC o)] 108)).alloc (.cells #[.int .u32 0, .string ⟨#[]⟩, .int .i64 0, .int .i64 0, .int .i64 0, .slice none 0 0] 108))
  have hb0 := (Ext.new (w.alloc (.cells #[.int .u32 (num o), .string (name o), .int .i64 (plan o).1, .int .i64 (plan o).2.1, .int .i64 (plan o).2.2.1, .slice (pA o) (pN o) (pC o)] 108)) (.cells #[.int .u32 0, .string ⟨#[]⟩, .int .i64 0, .int .i64 0, .int .i64 0, .slice none 0 0] 108)).at_ (at_new w _)
  have hb1 := at_new (w.alloc (.cells #[.int .u32 (num o), .string (name o), .int .i64 (plan o).1, .int .i64 (plan o).2.1, .int .i64 (plan o).2.2.1, .slice (pA o) (pN o) (pC o)] 108)) (.cells #[.int .u32 0, .string ⟨#[]⟩, .int .i64 0, .int .i64 0, .int .i64 0, .slice none 0 0] 108)
  have hsz : (w.alloc (.cells #[.int .u32 (num o), .string (name o), .int .i64 (plan o).1, .int .i64 (plan o).2.1, .int .i64 (plan o).2.2.1, .slice (pA o) (pN o) (pC o)] 108)).heap.size = w.heap.size + 1 := by simp
  rw [hsz] at hb1
  clear hsz
  go_enter Try.func124, Try.ntmps124
  go_upto_region 1 with fail
  generalize (w.alloc (.cells #[.int .u32 (num o), .string (name o), .int .i64 (plan o).1, .int .i64 (plan o).2.1, .int .i64 (plan o).2.2.1, .slice (pA o) (pN o) (pC o)] 108)).alloc (.cells #[.int .u32 0, .string ⟨#[]⟩, .int .i64 0, .int .i64 0, .int .i64 0, .slice none 0 0] 108) = wa at *
  have c5 : wa.cell? ⟨w.heap.size, 5, none⟩ = some (.slice (pA o) (pN o) (pC o)) := blk_cell (i := 5) hb0 (Ext.refl _) rfl
  have HB0 := Lib.hid hb0
  have HB1 := Lib.hid hb1
  clear hb0 hb1
  go_wp2_with fail
  refine (Clones.cloneRows (pA o) (pN o) (pC o) (cellsL rowS (rows o)) wa (by rw [cellsL_length, HL.out]; rfl) HA.out (fun ad ha j u hu => (e0.out).cell_ (ok_cells HP.out (by decide) ad ha j u hu)) (fun u hu => ?_) (by omega)).mono ?_
  · obtain ⟨r, _, hr⟩ := List.mem_flatMap.1 hu
    exact Sh.cells_one rowS r u hr
  rintro e w1 ⟨he1, P, pc, rfl, ho1⟩
  have HE1 := Lib.hid (e0.out.trans he1)
  have HO1 := Lib.hid (ho1.mono fun i _ k => Nat.le_trans e0.out.size k)
  have hb0 := he1.at_ HB0.out
  have HB1' := Lib.hid (he1.at_ HB1.out)
  have d5 : w1.cell? ⟨w.heap.size, 5, none⟩ = some (.slice (pA o) (pN o) (pC o)) := blk_cell (i := 5) hb0 (Ext.refl _) rfl
  have f5 := Pack.free_of hb0 5
  have HB0' := Lib.hid hb0
  clear he1 ho1 hb0 c5
  go_upto_region 2 with fail
  have hcl0 : CL w w.heap.size (w.heap.size + 1) o P pc 0 [] (w1.setCell ⟨w.heap.size, 5, none⟩ (.slice P (pN o) pc)) :=
    ⟨by have := set_blk (i := 5) HB0'.out (.slice P (pN o) pc); simpa using this, by rw [Below.heap_setCell _ _ _ _ (by show w.heap.size + 1 ≠ w.heap.size; omega)]; exact HB1'.out, own_put HO1.out HB0'.out (by decide), rfl, fun i r r' _ h => (by simp at h), by simp, fun i j x y _ h => (by simp at h), HE1.out.setCell (p := ⟨w.heap.size, 5, none⟩) (Nat.le_refl _) _⟩
  have HCL := Lib.hid hcl0
  have HEX := Lib.hid (HE1.out.setCell (p := ⟨w.heap.size, 5, none⟩) (Nat.le_refl _) (.slice P (pN o) pc))
  generalize w1.setCell ⟨w.heap.size, 5, none⟩ (.slice P (pN o) pc) = w2 at *
  have d5 : w2.cell? ⟨w.heap.size, 5, none⟩ = some (.slice P (pN o) pc) := blk_cell (i := 5) HCL.out.b0At (Ext.refl _) rfl
  clear hcl0 f5
  go_wp2_with fail
  go_loopg [3, 4, 12] (pN o) (fun g _ _ i wr => ∃ k : Nat, k ≤ pN o ∧ g = pN o - k ∧ i = .int .i64 k ∧ Hid (∃ done, CL w w.heap.size (w.heap.size + 1) o P pc k done wr))
  case atStart => exact ⟨0, Nat.zero_le _, rfl, rfl, Lib.hid ⟨[], HCL.out⟩⟩
  case round =>
    clear d5 HCL
    obtain ⟨k, hk, rfl, rfl, hrel⟩ := hrel
    obtain ⟨done, hcl⟩ := hrel.out
    have HC := Lib.hid hcl
    clear hrel hcl
    by_cases hlt : k < pN o
    · obtain ⟨r, hr⟩ : ∃ r, (rows o)[k]? = some r := ⟨_, List.getElem?_eq_getElem (by rw [HL.out]; exact hlt)⟩
      have hkl : k < (rows o).length := by rw [HL.out]; exact hlt
      have hdrop : (rows o).drop k = r :: (rows o).drop (k + 1) := by
        rw [List.drop_eq_getElem_cons hkl]
        rw [List.getElem?_eq_getElem hkl] at hr
        rw [Option.some.inj hr]
      obtain ⟨adp, rfl, hcell⟩ := own_cell HC.out.prow (j := k) (u := .slice (rA r) (rN r) (rC r)) (cellsL_one (by rw [hdrop]; exact app_at HC.out.dlen))
      have hrok : (Sh.sl plS).ok w (rA r, rN r, rC r, rP r) := sl_each HP.out hr
      have hrn := HR.out r (List.mem_of_getElem? hr)
      obtain ⟨h1, h2, h3, h4⟩ := sl_len hrok
      have HRO := Lib.hid hrok
      have HRN : Hid (rA r = none → rN r = 0) := Lib.hid fun k => by have := h4 k; omega
      have HRL := Lib.hid h1
      have HRR := Lib.hid hr
      clear hrok hr h1 h2 h3 h4 hdrop hkl
      go_upto_region 5 with fail
      have q5 : ∀ W, Ext wr.drew W → W.cell? ⟨w.heap.size, 5, none⟩ = some (.slice (some adp) (pN o) pc) := fun W hW => blk_cell (i := 5) HC.out.b0At (drew_ext hW) rfl
      have hsR : (rowF wr 118 2 (rN r) (cellsL plS (rP r))).St Ext := rowF_st
      refine Lex.wp_region_u [0, 1, 2, 3, 4, 5] [6] [(4, rowF wr 118 2 (rN r) (cellsL plS (rP r)))] (by kernel_rfl) (by kernel_rfl) (by repeat (first | exact Lex.st_nil | refine Lex.st_cons (by first | exact Lex.nums_st | exact Lex.const_st | exact Lex.such_st | exact Lex.row_st | exact Lex.rowE_st | exact Lex.litR_st | assumption) ?_)) ?_; simp only [Lex.pick, List.getElem?_cons_succ, List.getElem?_cons_zero, List.map_cons, List.map_nil]
      repeat (first | (refine Lex.lexU_skip (by rfl) ?_; simp only [Act.put, List.setIfInBounds_toArray, List.set_cons_zero, List.set_cons_succ]) | (refine Lex.lexU_still (by rfl) (by rfl) (by first | exact Base.Ext.refl | exact Lex.Fill.refl) ?_; apply Exists.intro; refine ⟨fun W hW => ?_, ?_⟩; (have hE := Lex.ext_of_cls hW.1; have hE2 := Lex.ext_drew hE; clear hW; go_simp; try with_reducible rfl); simp only [Act.put, List.setIfInBounds_toArray, List.set_cons_zero, List.set_cons_succ]))
      refine Lex.lexU_loose (by rfl) (by rfl) (fun W hW => ?_) ?_
      · have hE := Lex.ext_drew (Lex.ext_of_cls hW.1)
        clear hW
        go_simp
        refine (Clones.clonePlace (rA r) (rN r) (rC r) (cellsL plS (rP r)) _ (by rw [cellsL_length, HRL.out]; rfl) HRN.out (fun ad ha j u hu => (HC.out.ext.trans hE).cell_ (ok_cells HRO.out (by decide) ad ha j u hu)) (fun u hu => ?_) (by omega)).mono ?_
        · obtain ⟨x, _, hx⟩ := List.mem_flatMap.1 hu
          exact Sh.cells_one plS x u hx
        rintro e w8 ⟨he8, A8, c8, rfl, ho8⟩
        exact ⟨_, rfl, ⟨A8, c8, rfl⟩, he8, rowF_mk (ho8.mono fun i _ hi => Nat.le_trans hE.size hi)⟩
      rintro v ⟨A9, c9, rfl⟩
      simp only [Act.put, List.setIfInBounds_toArray, List.set_cons_zero, List.set_cons_succ]
      repeat (first | (refine Lex.lexU_skip (by rfl) ?_; simp only [Act.put, List.setIfInBounds_toArray, List.set_cons_zero, List.set_cons_succ]) | (refine Lex.lexU_still (by rfl) (by rfl) (by first | exact Base.Ext.refl | exact Lex.Fill.refl) ?_; apply Exists.intro; refine ⟨fun W hW => ?_, ?_⟩; (have hE := Lex.ext_of_cls hW.1; have hE2 := Lex.ext_drew hE; clear hW; go_simp; try with_reducible rfl); simp only [Act.put, List.setIfInBounds_toArray, List.set_cons_zero, List.set_cons_succ]))
      refine Lex.lexU_nil (fun W hW => ?_)
      have hE := Lib.hid (Lex.ext_drew hW.1)
      have hn9 := Lib.hid ((hW.2 4).2 rfl _ _ rfl)
      clear hW q5
      have hst := Lib.hid (HC.out.step hE.out HRR.out hn9.out)
      have hcc : W.cell? (adp.add k) = some (.slice (rA r) (rN r) (rC r)) := hE.out.cell_ hcell
      have hff : W.frozen? (adp.add k) = false := own_free (HC.out.prow.extNew hE.out) k
      clear hcell
      go_wp2_with fail
      simp only [Lex.onlyN]
      go_wp2_with fail
      go_roundg (pN o - (k + 1))
      case measure => omega
      case rel => exact ⟨k + 1, by omega, rfl, by first | rfl | go_num, Lib.hid ⟨_, hst.out⟩⟩
    · obtain rfl : k = pN o := by omega
      have hb0 := HC.out.b0At
      have hb1 := HC.out.b1At
      have z0 : wr.cell? ⟨w.heap.size, 0, none⟩ = some (.int .u32 (num o)) := blk_cell (i := 0) hb0 (Ext.refl _) rfl
      have z1 : wr.cell? ⟨w.heap.size, 1, none⟩ = some (.string (name o)) := blk_cell (i := 1) hb0 (Ext.refl _) rfl
      have z2 : wr.cell? ⟨w.heap.size, 2, none⟩ = some (.int .i64 (plan o).1) := blk_cell (i := 2) hb0 (Ext.refl _) rfl
      have z3 : wr.cell? ⟨w.heap.size, 3, none⟩ = some (.int .i64 (plan o).2.1) := blk_cell (i := 3) hb0 (Ext.refl _) rfl
      have z4 : wr.cell? ⟨w.heap.size, 4, none⟩ = some (.int .i64 (plan o).2.2.1) := blk_cell (i := 4) hb0 (Ext.refl _) rfl
      have z5 : wr.cell? ⟨w.heap.size, 5, none⟩ = some (.slice P (pN o) pc) := blk_cell (i := 5) hb0 (Ext.refl _) rfl
      go_wp2_with (refine RowSt.wpList_put 108 _ _ rfl rfl rfl (w.heap.size + 1) #[.int .u32 (num o), .string (name o), .int .i64 (plan o).1, .int .i64 (plan o).2.1, .int .i64 (plan o).2.2.1, .slice P (pN o) pc] rfl rfl 108 _ hb1 (by kernel_rfl) rfl (by simp [Value.oneCell']) ?_; intro w8 hb8 hc8)
      refine bodyPost_ret (v := objV (mkObj o P (pN o) pc done)) (results_cell_row rfl _ _ (w.heap.size + 1) 108 _ (0, 0) _ rfl hb8 Try.underlying108 rfl (by kernel_rfl)) rfl ?_
      exact ⟨_, rfl, HC.out.copied HL.out hc8 (by omega)⟩
end Go.Proofs.Ytfhgjopoohfhjaa.Tbl
