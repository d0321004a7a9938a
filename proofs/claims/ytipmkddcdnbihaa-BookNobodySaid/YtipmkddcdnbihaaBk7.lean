/- Texts put together: BookParse, Seal, SealFrame, SealOpen, Ref10, Ref10Open, Scan, DiaryRec, Tape, Diary, BookA. Contracts and plain facts, no condition but what each says. -/
import Derived.Deep.RegionHeld3
import Derived.Deep.CutBlock
import Derived.Test.YtipmkddcdnbihaaProg
import Derived.WalkKit
import Derived.KernelRfl
import Derived.Lib.Hide
import Derived.Lib.SlBytesConst
import Derived.Outline
import Derived.Deep.QuietTactic
import Derived.BigQuiet
import Derived.Deep.DeepCutAuto
import Derived.Deep.CutRange
import Derived.Test.YtipmkddcdnbihaaBk6
/- An operation, read out of its bytes: Parse; walked. -/
namespace Go.Proofs.Ytipmkddcdnbihaa.Bk
open Go.RowKit Base Step Vec Shape Erase Tbl PackB
theorem str_bytes (s : ByteArray) : strOfNums (bytesI s) = s := by
  unfold strOfNums bytesI
  rw [List.map_map]
  have h : (s.data.toList.map ((fun n : Int => UInt8.ofNat n.toNat) ∘ fun b : UInt8 => (b.toNat : Int))) = s.data.toList := by
    conv => rhs; rw [← List.map_id s.data.toList]
    refine List.map_congr_left fun b _ => ?_
    simp
  rw [h]
/-- Rows of which others are like, from block B on. -/
structure RowsN (w W : World) (l l' : List Tbl.Row) (n : Nat) (A : Option Addr) (c : Nat) : Prop where
  len : l'.length = n
  prow : New w W 186 1 A n c (cellsL rowS l')
  alike : ∀ (i : Nat) (r r' : Tbl.Row), l[i]? = some r → l'[i]? = some r' → Tbl.Alike r r' ∧ Tbl.RowNew w W r'
theorem Got.rowsN {w W : World} {g : Nat} {l l' : List Tbl.Row} {n c : Nat} {A : Option Addr} (h : Got w W g l l' n A c) : RowsN w W l l' n A c := ⟨h.len, h.prow, h.alike⟩
theorem RowsN.chg {w W W2 : World} {S : Nat → Prop} {l l' : List Tbl.Row} {n c : Nat} {A : Option Addr} (h : RowsN w W l l' n A c) (hc : Chg S W W2) (hS : ∀ i, S i → i < w.heap.size) : RowsN w W2 l l' n A c :=
  ⟨h.len, h.prow.chg hc fun i hi k => by have hi : w.heap.size ≤ i := hi; have := hS i k; omega, fun i r r' h1 h2 => ⟨(h.alike i r r' h1 h2).1, (h.alike i r r' h1 h2).2.chg hc fun i hi k => by have hi : w.heap.size ≤ i := hi; have := hS i k; omega⟩⟩
theorem RowsN.same {w W : World} {l l' : List Tbl.Row} {c : Nat} {A : Option Addr} (h : RowsN w W l l' l.length A c) : Same l l' := by
  unfold Same
  apply List.ext_getElem?
  intro i
  rw [List.getElem?_map, List.getElem?_map]
  have h1 := h.len
  rcases Nat.lt_or_ge i l.length with hi | hi
  · obtain ⟨r, hr⟩ : ∃ r, l[i]? = some r := ⟨_, List.getElem?_eq_getElem hi⟩
    obtain ⟨r', hr'⟩ : ∃ r', l'[i]? = some r' := ⟨_, List.getElem?_eq_getElem (by omega)⟩
    obtain ⟨⟨_, h2⟩, _⟩ := h.alike i r r' hr hr'
    rw [hr, hr']
    simp [h2]
  · rw [List.getElem?_eq_none (by omega), List.getElem?_eq_none (by omega)]
theorem RowsN.ok {w W : World} {sl : Nat} {l l' : List Tbl.Row} {c : Nat} {A : Option Addr} (h : RowsN w W l l' l.length A c) (hf : ∀ r ∈ l, FitR sl r) : (Sh.sl rowS).ok W (A, l.length, c, l') ∧ ∀ r ∈ l', rN r ≤ sl := by
  have hat : ∀ r' ∈ l', ∃ r, r ∈ l ∧ Tbl.Alike r r' ∧ Tbl.RowNew w W r' := fun r' hr' => by
    obtain ⟨i, hi, hir⟩ := List.getElem_of_mem hr'
    obtain ⟨r, hr⟩ : ∃ r, l[i]? = some r := ⟨_, List.getElem?_eq_getElem (by rw [← h.len]; exact hi)⟩
    exact ⟨r, List.mem_of_getElem? hr, h.alike i r r' hr (by rw [List.getElem?_eq_getElem hi, hir])⟩
  refine ⟨ok_own (W := W) (e := rowS) h.prow (by decide) h.len (fun r' hr' => ?_) (fun a v _ hc => hc) (own_max h.prow), fun r' hr' => ?_⟩
  · obtain ⟨r, hr, ⟨ha1, ha2⟩, hn⟩ := hat r' hr'
    obtain ⟨q1, q2, q3⟩ := hf r hr
    refine ok_own (W := W) (e := plS) hn (by decide) (by show (rP r').length = rN r'; rw [ha2, ha1]; exact q1) (fun x hx => ?_) (fun a v _ hc => hc) (own_max hn)
    have hx : x ∈ rP r' := hx
    rw [ha2] at hx
    obtain ⟨k1, k2, k3, k4⟩ := q3 x hx
    have e1 : (Lit.int .i64 (node x)).wf = true := WalkArith.wf_i64 ⟨by omega, by omega⟩
    have e2 : (Lit.int .u32 (gen x)).wf = true := WalkArith.wf_u32 ⟨k3, by omega⟩
    have hxk : (Lit.int .i64 x.1).wf = true ∧ (Lit.int .u32 x.2.1).wf = true ∧ True := ⟨e1, e2, trivial⟩
    exact hxk
  · obtain ⟨r, hr, ⟨ha1, ha2⟩, hn⟩ := hat r' hr'
    rw [ha1]
    exact (hf r hr).2.1
abbrev opZ : Array Value := #[.int .i64 0, .int .u32 0, .string ⟨#[]⟩, .int .i64 0, .int .i64 0, .int .i64 0, .slice none 0 0, .int .i64 0, .int .i64 0, .int .i64 0, .int .u32 0]
/-- An empty operation. -/
def op0 : Tbl.Op := ⟨0, 0, ⟨#[]⟩, 0, 0, 0, none, 0, 0, [], 0, 0, 0, 0⟩
/-- What is known while an operation is read: the result's box b2, the reader's block g, the operation's box g5. -/
structure PS (w W : World) (b2 g g5 : Nat) (o : Tbl.Op) (xs : List Int) : Prop where
  ext : Ext w W
  box : W.heap[g5]? = some (.cells (opC o) 82 (0, 0))
  res : W.heap[b2]? = some (.cells opZ 82 (0, 0))
  rd : ReaderB W g (b2 + 1) xs false
  lt : b2 < g ∧ g < g5
  ge : w.heap.size ≤ b2
theorem PS.num {w W W' : World} {b2 g g5 : Nat} {o : Tbl.Op} {xs ys : List Int} (h : PS w W b2 g g5 o xs) (hr : ReaderB W' g (b2 + 1) ys false) (hc : Chg (fun i => i = g) W W') : PS w W' b2 g g5 o ys :=
  ⟨h.ext.chg hc fun i hi => by have hi : i = g := hi; have := h.lt; have := h.ge; omega, hc.at_ h.box (by have := h.lt; omega), hc.at_ h.res (by have := h.lt; omega), hr, h.lt, h.ge⟩
theorem PS.put {w W W' : World} {b2 g g5 : Nat} {o o' : Tbl.Op} {xs : List Int} (h : PS w W b2 g g5 o xs) (hb : W'.heap[g5]? = some (.cells (opC o') 82 (0, 0))) (hc : Chg (fun i => i = g5) W W') : PS w W' b2 g g5 o' xs :=
  ⟨h.ext.chg hc fun i hi => by have hi : i = g5 := hi; have := h.lt; have := h.ge; omega, hb, hc.at_ h.res (by have := h.lt; omega), h.rd.chg hc fun i hi => by have hi : i = g5 := hi; have := h.lt; omega, h.lt, h.ge⟩
set_option maxRecDepth 100000 in
theorem done_calls (g B : Nat) (w : World) (hr : ReaderB w g B [] false) : Calls Try.prog 159 #[.pointer (some ⟨g, 0, none⟩)] w fun e w' => e = .returned (.bool true) ∧ Ext w w' := by
  have HR := Lib.hid hr.reader
  clear hr
  go_enter Try.func159, Try.ntmps159
  go_wp2_with fail
  refine (Pack.torn_calls g [] false w HR.out).mono ?_
  rintro e w1 ⟨rfl, rfl⟩
  go_wp2_with fail
  refine (Pack.left_calls g [] false w HR.out).mono ?_
  rintro e w1 ⟨rfl, rfl⟩
  go_wp2_with fail
  go_ret
  exact ⟨rfl, Ext.refl _⟩
theorem PS.ext_ {w W W' : World} {b2 g g5 : Nat} {o : Tbl.Op} {xs : List Int} (h : PS w W b2 g g5 o xs) (he : Ext W W') : PS w W' b2 g g5 o xs := ⟨h.ext.trans he, he.at_ h.box, he.at_ h.res, h.rd.ext he, h.lt, h.ge⟩
theorem PS.set {w W : World} {b2 g g5 i : Nat} {o o' : Tbl.Op} {xs : List Int} {u : Value} (h : PS w W b2 g g5 o xs) (ho : (opC o).setIfInBounds i u = opC o') : PS w (W.setCell ⟨g5, i, none⟩ u) b2 g g5 o' xs :=
  h.put (by rw [← ho]; exact set_blk h.box u) ((Chg.refl (fun i => i = g5) W).setCell (p := ⟨g5, i, none⟩) rfl _)
theorem at_flat {W : World} {k num st so nd gn : Int} {name : ByteArray} (h1 : 0 ≤ num) (h2 : num < 4294967296) (h3 : name.size ≤ 140737488355328) (h4 : 0 ≤ gn) (h5 : gn < 4294967296) (h6 : 0 ≤ nd) (h7 : nd < 32) : OpAt W ⟨k, num, name, 0, 0, 0, none, 0, 0, [], st, so, nd, gn⟩ :=
  ⟨by show (Lit.int .u32 num).wf = true; exact WalkArith.wf_u32 ⟨h1, by omega⟩, h3, by show (Lit.int .i64 0).wf = true; decide, by show (Lit.int .i64 0).wf = true; decide, by show (Lit.int .i64 0).wf = true; decide, ⟨rfl, Nat.le_refl _, by simp [maxLen], fun _ => rfl, fun i x hx => (by cases hx)⟩, Nat.zero_le _, fun r hr => (by cases hr), by show (Lit.int .u32 gn).wf = true; exact WalkArith.wf_u32 ⟨h4, by omega⟩, by show (Lit.int .i64 nd).wf = true; exact WalkArith.wf_i64 ⟨by omega, by omega⟩⟩
theorem rd_new_set {w0 w1 : World} {A : Option Addr} {n c g5 i : Nat} {xs : List Int} {u : Value} (h : New w0 w1 5 1 A n c (nums .u8 xs)) (hw : ∀ x ∈ xs, (Lit.int .u8 x).wf = true) (hg : g5 < w0.heap.size) : Rd (w1.setCell ⟨g5, i, none⟩ u) .u8 A n xs :=
  Pack.rd_setCell (h.rd hw) u fun ad ha _ e => by
    subst ha
    have h1 : w0.heap.size ≤ ad.block := h.foot _ rfl
    have e : ad.block = g5 := e
    omega
/-- What follows an operation's kind. -/
def opR (o : Tbl.Op) : List Int :=
  if o.kind = 1 then Le.le 4 o.num
  else if o.kind = 2 then Le.le 4 o.num ++ (textB o.name ++ (Le.le 4 o.l ++ (Le.le 2 o.p ++ (Le.le 1 o.n ++ (o.rows.flatMap rowK ++ [])))))
  else if o.kind = 3 then textB o.name
  else Le.le 4 o.num ++ (Le.le 1 o.stripe ++ (Le.le 1 o.slot ++ (Le.le 1 o.node ++ Le.le 4 o.gen)))
theorem opB_split {sl : Nat} {o : Tbl.Op} (h : Fit sl o) : opB o = Le.le 1 o.kind ++ opR o := by
  unfold opB opR comB
  by_cases h1 : o.kind = 1
  · rw [if_pos h1, if_pos h1, h1]
  by_cases h2 : o.kind = 2
  · rw [if_neg h1, if_neg h1, if_pos h2, if_pos h2, h2]
    simp
  by_cases h3 : o.kind = 3
  · rw [if_neg h1, if_neg h1, if_neg h2, if_neg h2, if_pos h3, if_pos h3, h3]
  · have h4 : o.kind = 4 := by rcases h.kind with h | h | h | h <;> omega
    rw [if_neg h1, if_neg h1, if_neg h2, if_neg h2, if_neg h3, if_neg h3, h4]
    simp
set_option maxRecDepth 100000 in
set_option maxHeartbeats 8000000 in
theorem parse_calls (o : Tbl.Op) (sl : Nat) (A : Option Addr) (n c : Nat) (w : World) (hr : Rd w .u8 A n (opB o)) (hc : n ≤ c) (h0 : A = none → c = 0) (hf : Fit sl o) (hsl : sl ≤ 24) :
    Calls Try.prog 90 #[.slice A n c] w fun e w' => ∃ o', e = .returned (.tuple #[opV o', .int .i64 0]) ∧ Ext w w' ∧ Like2 (norm o) o' ∧ OpAt w' o' := by
  obtain ⟨Q, hQ⟩ : ∃ Q : Ending → World → Prop, Q = fun e w' => ∃ o', e = .returned (.tuple #[opV o', .int .i64 0]) ∧ Ext w w' ∧ Like2 (norm o) o' ∧ OpAt w' o' := ⟨_, rfl⟩
  have HQ : Hid (∀ o' w', Ext w w' → Like2 (norm o) o' → OpAt w' o' → Q (.returned (.tuple #[opV o', .int .i64 0])) w') := Lib.hid fun o' w' h1 h2 h3 => by rw [hQ]; exact ⟨o', rfl, h1, h2, h3⟩
  rw [← hQ]
  clear hQ
  have HF := Lib.hid hf
  have hk0 : 1 ≤ o.kind ∧ o.kind ≤ 4 := by rcases hf.kind with h | h | h | h <;> omega
  have K0 : IntKind.i64.wrap o.kind = o.kind := IntWalk.i64_in _ (by omega)
  have N0 : IntKind.u32.wrap o.num = o.num := IntWalk.u32_in _ (by have := hf.num; omega)
  have HK0 := Lib.hid hk0
  have HR := Lib.hid hr
  clear hf hk0 hr
  have hb2 := at_new w (.cells opZ 82)
  have he1 := Ext.new w (.cells opZ 82)
  have HS1 : Hid ((w.alloc (.cells opZ 82)).heap.size = w.heap.size + 1) := Lib.hid (by simp)
  go_enter Try.func90, Try.ntmps90
  go_upto_region 1 with fail
  generalize w.alloc (.cells opZ 82) = w1 at *
  go_wp2_with fail
  refine (readB_calls A n c (opB o) w1 (HR.out.ext he1) hc h0).mono ?_
  rintro e w2 ⟨rfl, hr2, he2⟩
  have HR2 := Lib.hid hr2
  have HE2 := Lib.hid (he1.trans he2)
  have HB2 := Lib.hid (he2.at_ hb2)
  clear hr2 he2 he1 hb2
  have HGB : Hid (w1.heap.size = w.heap.size + 1) := HS1
  clear HS1
  generalize w1.heap.size = g at *
  rw [HGB.out] at HR2
  have HSP := Lib.hid (opB_split HF.out)
  rw [HSP.out] at HR2
  have hol := opB_len HF.out
  rw [HSP.out, List.length_append] at hol
  go_wp2_with fail
  refine (numB_calls g (w.heap.size + 1) (opR o) false 1 o.kind w2 (by have := HR2.out; rw [← HGB.out] at this ⊢; exact this) (by decide) (by omega) (by have := HK0.out; omega) (by have := HK0.out; omega)).mono ?_
  rintro e w3 ⟨rfl, hr3, hc3⟩
  have HR3 := Lib.hid hr3
  have HC3 := Lib.hid hc3
  clear hr3 hc3 HR2
  go_upto_region 3 with (refine RowSt.wpList_put 82 _ _ rfl rfl rfl w3.heap.size #[.int .i64 o.kind, .int .u32 0, .string ⟨#[]⟩, .int .i64 0, .int .i64 0, .int .i64 0, .slice none 0 0, .int .i64 0, .int .i64 0, .int .i64 0, .int .u32 0] rfl rfl 82 _ (at_new w3 _) (by kernel_rfl) rfl (by simp [Value.oneCell']) ?_; intro w4 hb4 hc4)
  have hg3 : g < w3.heap.size := HR3.out.lt
  have hE4 : Ext w3 w4 := (Ext.new w3 _).chg hc4 fun i hi => by have hi : i = w3.heap.size := hi; omega
  have HP4 : Hid (PS w w4 w.heap.size g w3.heap.size ⟨o.kind, 0, ⟨#[]⟩, 0, 0, 0, none, 0, 0, [], 0, 0, 0, 0⟩ (opR o)) := Lib.hid ⟨(HE2.out.chg HC3.out fun i hi => by have hi : i = g := hi; have := HGB.out; omega).trans hE4, hb4, hE4.at_ (HC3.out.at_ HB2.out (by have := HGB.out; omega)), HR3.out.ext hE4, ⟨by have := HGB.out; omega, hg3⟩, Nat.le_refl _⟩
  have HG3 := Lib.hid hg3
  generalize w3.heap.size = g5 at *
  clear hb4 hc4 hg3 hE4 HR3 HC3 HE2 HB2
  have k0 : w4.cell? ⟨g5, 0, none⟩ = some (.int .i64 o.kind) := blk_cell (i := 0) HP4.out.box (Ext.refl _) rfl
  by_cases h1 : o.kind = 1
  · have hk : (o.kind == 1) = true := by simp [h1]
    have HKK := Lib.hid h1
    have HX : Hid (opR o = Le.le 4 o.num ++ []) := Lib.hid (by unfold opR; rw [if_pos h1, List.append_nil])
    clear h1
    go_wp2_with fail
    refine (numB_calls g (w.heap.size + 1) [] false 4 o.num w4 (by have := HP4.out.rd; rw [HX.out] at this; exact this) (by decide) (by simp) HF.out.num.1 (by have := HF.out.num.2; omega)).mono ?_
    rintro e w5 ⟨rfl, hr5, hc5⟩
    have HP5 := Lib.hid (HP4.out.num hr5 hc5)
    clear hr5 hc5 HP4 k0
    have k1 : w5.cell? ⟨g5, 1, none⟩ = some (.int .u32 0) := blk_cell (i := 1) HP5.out.box (Ext.refl _) rfl
    have f1 : w5.frozen? ⟨g5, 1, none⟩ = false := Pack.free_of HP5.out.box 1
    go_upto_region 17 with fail
    have hs := set_blk (i := 1) HP5.out.box (.int .u32 o.num)
    have hcs : Chg (fun i => i = g5) w5 (w5.setCell ⟨g5, 1, none⟩ (.int .u32 o.num)) := (Chg.refl (fun i => i = g5) w5).setCell (p := ⟨g5, 1, none⟩) rfl _
    generalize w5.setCell ⟨g5, 1, none⟩ (.int .u32 o.num) = w6 at *
    have HP : Hid (PS w w6 w.heap.size g g5 ⟨o.kind, o.num, ⟨#[]⟩, 0, 0, 0, none, 0, 0, [], 0, 0, 0, 0⟩ []) := Lib.hid (HP5.out.put (by simpa using hs) hcs)
    clear hs hcs HP5 k1 f1
    have HLK : Hid (Like2 (norm o) ⟨o.kind, o.num, ⟨#[]⟩, 0, 0, 0, none, 0, 0, [], 0, 0, 0, 0⟩) := Lib.hid (by
      have e := HKK.out
      have e2 : ¬ o.kind = 2 := by omega
      unfold norm
      rw [if_neg e2]
      exact ⟨rfl, rfl, rfl, fun _ => rfl, fun k => absurd k e2, fun k => absurd (HKK.out.symm.trans k) (by decide), fun k => absurd (HKK.out.symm.trans k) (by decide)⟩)
    go_wp2_with fail
    refine (done_calls g (w.heap.size + 1) _ HP.out.rd).mono ?_
    rintro e w8 ⟨rfl, he8⟩
    have HB8 := Lib.hid (he8.at_ HP.out.box)
    have HR8 := Lib.hid (he8.at_ HP.out.res)
    have HE8 := Lib.hid (HP.out.ext.trans he8)
    have HX8 := Lib.hid he8
    clear he8 HP
    go_wp2_with (first | (refine wpList_load_rowG rfl 82 _ rfl g5 rfl 82 #[.int .i64 o.kind, .int .u32 o.num, .string ⟨#[]⟩, .int .i64 0, .int .i64 0, .int .i64 0, .slice none 0 0, .int .i64 0, .int .i64 0, .int .i64 0, .int .u32 0] (0, 0) _ HB8.out Try.underlying82 rfl (by kernel_rfl) ?_) | (refine RowSt.wpList_put 82 _ _ rfl rfl rfl w.heap.size #[.int .i64 o.kind, .int .u32 o.num, .string ⟨#[]⟩, .int .i64 0, .int .i64 0, .int .i64 0, .slice none 0 0, .int .i64 0, .int .i64 0, .int .i64 0, .int .u32 0] rfl rfl 82 _ HR8.out (by kernel_rfl) rfl (by simp [Value.oneCell']) ?_; intro w9 hb9 hc9))
    refine bodyPost_ret (v := .tuple #[.agg #[.int .i64 o.kind, .int .u32 o.num, .string ⟨#[]⟩, .int .i64 0, .int .i64 0, .int .i64 0, .slice none 0 0, .int .i64 0, .int .i64 0, .int .i64 0, .int .u32 0], .int .i64 0]) (RowSt.results_cell_tmp (p := 2) (q := 3) rfl _ _ w.heap.size 82 _ (0, 0) _ rfl hb9 Try.underlying82 rfl (by kernel_rfl)) rfl ?_
    exact HQ.out ⟨o.kind, o.num, ⟨#[]⟩, 0, 0, 0, none, 0, 0, [], 0, 0, 0, 0⟩ w9 (HE8.out.chg hc9 fun i hi => by have hi : i = w.heap.size := hi; omega) HLK.out (at_flat HF.out.num.1 HF.out.num.2 (Nat.zero_le _) (Int.le_refl _) (by decide) (Int.le_refl _) (by decide))
  by_cases h2 : o.kind = 2
  · have hk1 : (o.kind == 1) = false := by simp [h1]
    have hk : (o.kind == 2) = true := by simp [h2]
    have HKK := Lib.hid h2
    have hfn := HF.out.name (.inl h2)
    obtain ⟨l0, l1, p0, p1, hcn, hn32, hrl⟩ := HF.out.c2 h2
    have HRW : Hid (∀ r ∈ o.rows, FitR sl r) := Lib.hid (HF.out.rows h2)
    have HRL := Lib.hid hrl
    have hz : (o.rows.flatMap rowK ++ []).length ≤ 10000 := by
      have h4 := flat_le_mul rowK (1 + 5 * sl) o.rows fun r hr => rowK_len (HF.out.rows h2 r hr).1 (HF.out.rows h2 r hr).2.1
      have h6 : o.rows.length * (1 + 5 * sl) ≤ 32 * (1 + 5 * sl) := Nat.mul_le_mul_right _ (by omega)
      have h7 := Nat.le_trans h4 h6
      rw [List.append_nil]
      omega
    obtain ⟨R5, hR5⟩ : ∃ R5, R5 = o.rows.flatMap rowK ++ [] := ⟨_, rfl⟩
    have HX : Hid (opR o = Le.le 4 o.num ++ (Le.le 2 (bytesI o.name).length ++ (bytesI o.name ++ (Le.le 4 o.l ++ (Le.le 2 o.p ++ (Le.le 1 (o.rows.length : Nat) ++ R5)))))) := Lib.hid (by unfold opR textB; rw [if_neg h1, if_pos h2, bytesI_len, hrl, hR5]; simp)
    rw [← hR5] at hz
    have HR5 := Lib.hid hR5
    have W1 : IntKind.i64.wrap o.l = o.l := IntWalk.i64_in _ (by omega)
    have W2 : IntKind.i64.wrap o.p = o.p := IntWalk.i64_in _ (by omega)
    clear h1 h2 hrl hR5
    have HRD4 : Hid (ReaderB w4.drew g (w.heap.size + 1) (Le.le 4 o.num ++ (Le.le 2 (bytesI o.name).length ++ (bytesI o.name ++ (Le.le 4 o.l ++ (Le.le 2 o.p ++ (Le.le 1 (o.rows.length : Nat) ++ R5)))))) false) := Lib.hid (by have := HP4.out.rd; rw [HX.out] at this; exact this.ext (Ext.refl _).drew)
    have HL1 : Hid ((Le.le 2 (bytesI o.name).length ++ (bytesI o.name ++ (Le.le 4 o.l ++ (Le.le 2 o.p ++ (Le.le 1 (o.rows.length : Nat) ++ R5))))).length ≤ 1099511627000) := Lib.hid (by simp [Le.le_length, bytesI_len]; omega)
    have HL2 : Hid ((Le.le 4 o.l ++ (Le.le 2 o.p ++ (Le.le 1 (o.rows.length : Nat) ++ R5))).length ≤ 1099511626000) := Lib.hid (by simp [Le.le_length]; omega)
    have HL3 : Hid ((bytesI o.name).length ≤ 1000) := Lib.hid (by rw [bytesI_len]; omega)
    have HN1 : Hid (o.num < 256 ^ 4) := Lib.hid (by have := HF.out.num.2; omega)
    have HPd := Lib.hid (HP4.out.ext_ (Ext.refl _).drew)
    go_upto_region 8 with fail
    go_cut [] from 23 to 30 (fun wx => Hid (PS w wx w.heap.size g g5 ⟨o.kind, o.num, o.name, 0, 0, 0, none, 0, 0, [], 0, 0, 0, 0⟩ (Le.le 4 o.l ++ (Le.le 2 o.p ++ (Le.le 1 (o.rows.length : Nat) ++ R5)))))
    case first =>
      clear k0 HP4
      go_region_with (first
        | (go_at_call 156; refine (numB_calls g (w.heap.size + 1) _ false 4 o.num _ HRD4.out (by decide) HL1.out HF.out.num.1 HN1.out).mono ?_; rintro e w5 ⟨rfl, hr5, hc5⟩; have HP5 := Lib.hid (HPd.out.num hr5 hc5); clear hr5 hc5; have HP5s := Lib.hid (HP5.out.set (i := 1) (u := .int .u32 o.num) (o' := ⟨o.kind, o.num, ⟨#[]⟩, 0, 0, 0, none, 0, 0, [], 0, 0, 0, 0⟩) rfl); have k1 := blk_cell (i := 1) HP5.out.box (Ext.refl _) rfl; have f1 := Pack.free_of HP5.out.box 1)
        | (go_at_call 157; refine (textB_calls g (w.heap.size + 1) _ (bytesI o.name) false _ HP5.out.rd HL2.out HL3.out).mono ?_; rintro e w6 ⟨A6, c6, rfl, ho6, hr6, hc6⟩; have HP6 := Lib.hid (HP5.out.num hr6 hc6); have hcv := str8 c6 (ho6.rd (bytesI_wf o.name)); rw [str_bytes] at hcv; have hcv2 := str8 c6 (rd_new_set (i := 1) (u := .int .u32 o.num) ho6 (bytesI_wf o.name) (Pack.lt_of_at HP5.out.box)); rw [str_bytes] at hcv2; clear hr6 hc6; have k1 := blk_cell (i := 1) HP6.out.box (Ext.refl _) rfl; have f1 := Pack.free_of HP6.out.box 1; have k2 := blk_cell (i := 2) HP6.out.box (Ext.refl _) rfl; have f2 := Pack.free_of HP6.out.box 2)
        | (go_at_call 157; refine (textB_calls g (w.heap.size + 1) _ (bytesI o.name) false _ HP5s.out.rd HL2.out HL3.out).mono ?_; rintro e w6 ⟨A6, c6, rfl, ho6, hr6, hc6⟩; have HP6 := Lib.hid (HP5s.out.num hr6 hc6); have hcv := str8 c6 (ho6.rd (bytesI_wf o.name)); rw [str_bytes] at hcv; clear hr6 hc6; have k2 := blk_cell (i := 2) HP6.out.box (Ext.refl _) rfl; have f2 := Pack.free_of HP6.out.box 2))
      all_goals
        go_wp2_with fail
        go_meet
        exact Lib.hid ((HP6.out.set (i := 1) (u := .int .u32 o.num) (o' := ⟨o.kind, o.num, ⟨#[]⟩, 0, 0, 0, none, 0, 0, [], 0, 0, 0, 0⟩) rfl).set rfl)
    case rest =>
      clear k0 HP4 HRD4 HL1 HL3 HN1 HPd
      have HP6 := hcut
      clear hcut
      go_wp2_with fail
      refine (numB_calls g (w.heap.size + 1) (Le.le 2 o.p ++ (Le.le 1 (o.rows.length : Nat) ++ R5)) false 4 o.l _ HP6.out.rd (by decide) (by simp [Le.le_length]; omega) l0 (by omega)).mono ?_
      rintro e w7 ⟨rfl, hr7, hc7⟩
      have HP7 := Lib.hid (HP6.out.num hr7 hc7)
      clear hr7 hc7 HP6
      go_wp2_with fail
      refine (numB_calls g (w.heap.size + 1) (Le.le 1 (o.rows.length : Nat) ++ R5) false 2 o.p _ HP7.out.rd (by decide) (by simp [Le.le_length]; omega) (by omega) (by omega)).mono ?_
      rintro e w8 ⟨rfl, hr8, hc8⟩
      have HP8 := Lib.hid (HP7.out.num hr8 hc8)
      clear hr8 hc8 HP7
      go_upto_region 10 with (refine Splice.wpList_storeB 77 _ _ rfl rfl rfl g5 3 #[.int .i64 o.l, .int .i64 0, .int .i64 o.p] rfl rfl 82 _ HP8.out.box (by kernel_rfl) (by simp) (by simp [Value.oneCell']) ?_; intro w9 hg9 hc9)
      have HP9 : Hid (PS w w9 w.heap.size g g5 ⟨o.kind, o.num, o.name, o.l, 0, o.p, none, 0, 0, [], 0, 0, 0, 0⟩ (Le.le 1 (o.rows.length : Nat) ++ R5)) := Lib.hid (HP8.out.put (by simpa [Splice.putAt] using hg9) hc9)
      clear hg9 hc9 HP8
      have HB9 : Hid (w.heap.size + 1 ≤ w9.heap.size) := Lib.hid (by have := Pack.lt_of_at HP9.out.res; omega)
      go_wp2_with fail
      refine (places_calls g (w.heap.size + 1) sl o.rows [] w9 (by have := HP9.out.rd; rw [HR5.out] at this; exact this) HB9.out (by rw [HRL.out]; exact hn32) HRW.out hsl (by simp)).mono ?_
      rintro e w10 ⟨A', c', l', rfl, hgot, hr10⟩
      have HP10 := Lib.hid (HP9.out.num hr10 hgot.chg)
      have HRN := Lib.hid hgot.rowsN
      have HG5 : Hid (g5 < w9.heap.size) := Lib.hid (Pack.lt_of_at HP9.out.box)
      have HW9 : Hid (w.heap.size < w9.heap.size) := Lib.hid (Pack.lt_of_at HP9.out.res)
      rw [HRL.out]
      clear hgot hr10 HP9
      have k6 : w10.cell? ⟨g5, 6, none⟩ = some (.slice none 0 0) := blk_cell (i := 6) HP10.out.box (Ext.refl _) rfl
      have f6 : w10.frozen? ⟨g5, 6, none⟩ = false := Pack.free_of HP10.out.box 6
      go_upto_region 11 with fail
      have HP11 : Hid (PS w (w10.setCell ⟨g5, 6, none⟩ (.slice A' o.n c')) w.heap.size g g5 ⟨o.kind, o.num, o.name, o.l, 0, o.p, A', o.n, c', l', 0, 0, 0, 0⟩ []) := Lib.hid (HP10.out.set rfl)
      have hcs : Chg (fun i => i = g5) w10 (w10.setCell ⟨g5, 6, none⟩ (.slice A' o.n c')) := (Chg.refl (fun i => i = g5) w10).setCell (p := ⟨g5, 6, none⟩) rfl _
      generalize w10.setCell ⟨g5, 6, none⟩ (.slice A' o.n c') = w11 at *
      have HRN1 := Lib.hid (HRN.out.chg hcs fun i hi => by have hi : i = g5 := hi; rw [hi]; exact HG5.out)
      clear hcs HRN HP10 k6 f6
      have k6 : w11.cell? ⟨g5, 6, none⟩ = some (.slice A' o.n c') := blk_cell (i := 6) HP11.out.box (Ext.refl _) rfl
      have k4 : w11.cell? ⟨g5, 4, none⟩ = some (.int .i64 0) := blk_cell (i := 4) HP11.out.box (Ext.refl _) rfl
      have f4 : w11.frozen? ⟨g5, 4, none⟩ = false := Pack.free_of HP11.out.box 4
      go_upto_region 17 with fail
      have HP : Hid (PS w (w11.setCell ⟨g5, 4, none⟩ (.int .i64 (o.n : Nat))) w.heap.size g g5 ⟨o.kind, o.num, o.name, o.l, o.n, o.p, A', o.n, c', l', 0, 0, 0, 0⟩ []) := Lib.hid (HP11.out.set rfl)
      have hcs : Chg (fun i => i = g5) w11 (w11.setCell ⟨g5, 4, none⟩ (.int .i64 (o.n : Nat))) := (Chg.refl (fun i => i = g5) w11).setCell (p := ⟨g5, 4, none⟩) rfl _
      generalize w11.setCell ⟨g5, 4, none⟩ (.int .i64 (o.n : Nat)) = w12 at *
      have HRN2 := Lib.hid (HRN1.out.chg hcs fun i hi => by have hi : i = g5 := hi; rw [hi]; exact HG5.out)
      have HSAME := Lib.hid HRN2.out.same
      have HAT : Hid (∀ (S : Nat → Prop) (W : World), Chg S w12 W → (∀ i, S i → i < w9.heap.size) → OpAt W (⟨o.kind, o.num, o.name, o.l, o.n, o.p, A', o.n, c', l', 0, 0, 0, 0⟩ : Tbl.Op)) := Lib.hid fun S W hc hS => by
        have h1 := HRN2.out.chg hc hS
        obtain ⟨h2, h3⟩ := h1.ok HRW.out
        rw [HRL.out] at h2
        exact ⟨by show (Lit.int .u32 o.num).wf = true; exact WalkArith.wf_u32 ⟨HF.out.num.1, by have := HF.out.num.2; omega⟩, by show o.name.size ≤ _; omega, by show (Lit.int .i64 o.l).wf = true; exact WalkArith.wf_i64 ⟨by omega, by omega⟩, by show (Lit.int .i64 ((o.n : Nat) : Int)).wf = true; exact WalkArith.wf_i64 ⟨by omega, by omega⟩, by show (Lit.int .i64 o.p).wf = true; exact WalkArith.wf_i64 ⟨by omega, by omega⟩, h2, by show o.n ≤ _; omega, fun r hr => by have := h3 r hr; omega, by show (Lit.int .u32 0).wf = true; decide, by show (Lit.int .i64 0).wf = true; decide⟩
      clear hcs HRN1 HP11 k6 k4 f4 HRN2
      have HLK : Hid (Like2 (norm o) (⟨o.kind, o.num, o.name, o.l, o.n, o.p, A', o.n, c', l', 0, 0, 0, 0⟩ : Tbl.Op)) := Lib.hid (by
        rw [norm_two HKK.out]
        exact ⟨rfl, rfl, HSAME.out, fun k => absurd (HKK.out.symm.trans k) (by decide), fun _ => ⟨rfl, rfl, rfl, rfl, hcn.symm⟩, fun k => absurd (HKK.out.symm.trans k) (by decide), fun k => absurd (HKK.out.symm.trans k) (by decide)⟩)
      go_wp2_with fail
      refine (done_calls g (w.heap.size + 1) _ HP.out.rd).mono ?_
      rintro e w8 ⟨rfl, he8⟩
      have HB8 := Lib.hid (he8.at_ HP.out.box)
      have HR8 := Lib.hid (he8.at_ HP.out.res)
      have HE8 := Lib.hid (HP.out.ext.trans he8)
      have HX8 := Lib.hid he8
      clear he8 HP
      go_wp2_with (first | (refine wpList_load_rowG rfl 82 _ rfl g5 rfl 82 #[.int .i64 o.kind, .int .u32 o.num, .string o.name, .int .i64 o.l, .int .i64 (o.n : Nat), .int .i64 o.p, .slice A' o.n c', .int .i64 0, .int .i64 0, .int .i64 0, .int .u32 0] (0, 0) _ HB8.out Try.underlying82 rfl (by kernel_rfl) ?_) | (refine RowSt.wpList_put 82 _ _ rfl rfl rfl w.heap.size #[.int .i64 o.kind, .int .u32 o.num, .string o.name, .int .i64 o.l, .int .i64 (o.n : Nat), .int .i64 o.p, .slice A' o.n c', .int .i64 0, .int .i64 0, .int .i64 0, .int .u32 0] rfl rfl 82 _ HR8.out (by kernel_rfl) rfl (by simp [Value.oneCell']) ?_; intro w9 hb9 hc9))
      refine bodyPost_ret (v := .tuple #[.agg #[.int .i64 o.kind, .int .u32 o.num, .string o.name, .int .i64 o.l, .int .i64 (o.n : Nat), .int .i64 o.p, .slice A' o.n c', .int .i64 0, .int .i64 0, .int .i64 0, .int .u32 0], .int .i64 0]) (RowSt.results_cell_tmp (p := 2) (q := 3) rfl _ _ w.heap.size 82 _ (0, 0) _ rfl hb9 Try.underlying82 rfl (by kernel_rfl)) rfl ?_
      exact HQ.out (⟨o.kind, o.num, o.name, o.l, o.n, o.p, A', o.n, c', l', 0, 0, 0, 0⟩ : Tbl.Op) w9 (HE8.out.chg hc9 fun i hi => by have hi : i = w.heap.size := hi; omega) HLK.out (HAT.out (fun i => i = w.heap.size) w9 ((Below.chg HX8.out : Chg (fun i => i = w.heap.size) _ _).trans hc9) fun i hi => by have hi : i = w.heap.size := hi; rw [hi]; exact HW9.out)
  by_cases h3 : o.kind = 3
  · have hk1 : (o.kind == 1) = false := by simp [h1]
    have hk2 : (o.kind == 2) = false := by simp [h2]
    have hk : (o.kind == 3) = true := by simp [h3]
    have HKK := Lib.hid h3
    have hfn := HF.out.name (.inr h3)
    have HX : Hid (opR o = Le.le 2 (bytesI o.name).length ++ (bytesI o.name ++ [])) := Lib.hid (by unfold opR textB; rw [if_neg h1, if_neg h2, if_pos h3, List.append_nil, bytesI_len])
    clear h1 h2 h3
    go_wp2_with fail
    refine (textB_calls g (w.heap.size + 1) [] (bytesI o.name) false w4 (by have := HP4.out.rd; rw [HX.out] at this; exact this) (by simp) (by rw [bytesI_len]; omega)).mono ?_
    rintro e w5 ⟨A5, c5, rfl, ho5, hr5, hc5⟩
    have HP5 := Lib.hid (HP4.out.num hr5 hc5)
    have hcv := str8 c5 (ho5.rd (bytesI_wf o.name))
    rw [str_bytes] at hcv
    clear hr5 hc5 HP4 k0 ho5
    have k2 : w5.cell? ⟨g5, 2, none⟩ = some (.string ⟨#[]⟩) := blk_cell (i := 2) HP5.out.box (Ext.refl _) rfl
    have f2 : w5.frozen? ⟨g5, 2, none⟩ = false := Pack.free_of HP5.out.box 2
    go_upto_region 17 with fail
    have hs := set_blk (i := 2) HP5.out.box (.string o.name)
    have hcs : Chg (fun i => i = g5) w5 (w5.setCell ⟨g5, 2, none⟩ (.string o.name)) := (Chg.refl (fun i => i = g5) w5).setCell (p := ⟨g5, 2, none⟩) rfl _
    generalize w5.setCell ⟨g5, 2, none⟩ (.string o.name) = w6 at *
    have HP : Hid (PS w w6 w.heap.size g g5 ⟨o.kind, 0, o.name, 0, 0, 0, none, 0, 0, [], 0, 0, 0, 0⟩ []) := Lib.hid (HP5.out.put (by simpa using hs) hcs)
    clear hs hcs HP5 k2 f2 hcv
    have HLK : Hid (Like2 (norm o) ⟨o.kind, 0, o.name, 0, 0, 0, none, 0, 0, [], 0, 0, 0, 0⟩) := Lib.hid (by
      have e := HKK.out
      have e2 : ¬ o.kind = 2 := by omega
      unfold norm
      rw [if_neg e2]
      exact ⟨rfl, rfl, rfl, fun k => absurd (HKK.out.symm.trans k) (by decide), fun k => absurd k e2, fun _ => rfl, fun k => absurd (HKK.out.symm.trans k) (by decide)⟩)
    go_wp2_with fail
    refine (done_calls g (w.heap.size + 1) _ HP.out.rd).mono ?_
    rintro e w8 ⟨rfl, he8⟩
    have HB8 := Lib.hid (he8.at_ HP.out.box)
    have HR8 := Lib.hid (he8.at_ HP.out.res)
    have HE8 := Lib.hid (HP.out.ext.trans he8)
    have HX8 := Lib.hid he8
    clear he8 HP
    go_wp2_with (first | (refine wpList_load_rowG rfl 82 _ rfl g5 rfl 82 #[.int .i64 o.kind, .int .u32 0, .string o.name, .int .i64 0, .int .i64 0, .int .i64 0, .slice none 0 0, .int .i64 0, .int .i64 0, .int .i64 0, .int .u32 0] (0, 0) _ HB8.out Try.underlying82 rfl (by kernel_rfl) ?_) | (refine RowSt.wpList_put 82 _ _ rfl rfl rfl w.heap.size #[.int .i64 o.kind, .int .u32 0, .string o.name, .int .i64 0, .int .i64 0, .int .i64 0, .slice none 0 0, .int .i64 0, .int .i64 0, .int .i64 0, .int .u32 0] rfl rfl 82 _ HR8.out (by kernel_rfl) rfl (by simp [Value.oneCell']) ?_; intro w9 hb9 hc9))
    refine bodyPost_ret (v := .tuple #[.agg #[.int .i64 o.kind, .int .u32 0, .string o.name, .int .i64 0, .int .i64 0, .int .i64 0, .slice none 0 0, .int .i64 0, .int .i64 0, .int .i64 0, .int .u32 0], .int .i64 0]) (RowSt.results_cell_tmp (p := 2) (q := 3) rfl _ _ w.heap.size 82 _ (0, 0) _ rfl hb9 Try.underlying82 rfl (by kernel_rfl)) rfl ?_
    exact HQ.out ⟨o.kind, 0, o.name, 0, 0, 0, none, 0, 0, [], 0, 0, 0, 0⟩ w9 (HE8.out.chg hc9 fun i hi => by have hi : i = w.heap.size := hi; omega) HLK.out (at_flat (Int.le_refl _) (by decide) (by omega) (Int.le_refl _) (by decide) (Int.le_refl _) (by decide))
  · have h4 : o.kind = 4 := by have := HK0.out; omega
    have hk1 : (o.kind == 1) = false := by simp [h1]
    have hk2 : (o.kind == 2) = false := by simp [h2]
    have hk3 : (o.kind == 3) = false := by simp [h3]
    have hk : (o.kind == 4) = true := by simp [h4]
    have HKK := Lib.hid h4
    obtain ⟨s0, s1, t0, t1, n0, n1, g0, g1⟩ := HF.out.c4 h4
    have HX : Hid (opR o = Le.le 4 o.num ++ (Le.le 1 o.stripe ++ (Le.le 1 o.slot ++ (Le.le 1 o.node ++ (Le.le 4 o.gen ++ []))))) := Lib.hid (by unfold opR; rw [if_neg h1, if_neg h2, if_neg h3, List.append_nil])
    have W1 : IntKind.i64.wrap o.stripe = o.stripe := IntWalk.i64_in _ (by omega)
    have W2 : IntKind.i64.wrap o.slot = o.slot := IntWalk.i64_in _ (by omega)
    have W3 : IntKind.i64.wrap o.node = o.node := IntWalk.i64_in _ (by omega)
    have W4 : IntKind.u32.wrap o.gen = o.gen := IntWalk.u32_in _ (by omega)
    clear h1 h2 h3 h4
    go_wp2_with fail
    refine (numB_calls g (w.heap.size + 1) (Le.le 1 o.stripe ++ (Le.le 1 o.slot ++ (Le.le 1 o.node ++ (Le.le 4 o.gen ++ [])))) false 4 o.num w4 (by have := HP4.out.rd; rw [HX.out] at this; exact this) (by decide) (by simp [Le.le_length]) HF.out.num.1 (by have := HF.out.num.2; omega)).mono ?_
    rintro e w5 ⟨rfl, hr5, hc5⟩
    have HP5 := Lib.hid (HP4.out.num hr5 hc5)
    clear hr5 hc5 HP4 k0
    go_wp2_with fail
    refine (numB_calls g (w.heap.size + 1) (Le.le 1 o.slot ++ (Le.le 1 o.node ++ (Le.le 4 o.gen ++ []))) false 1 o.stripe w5 HP5.out.rd (by decide) (by simp [Le.le_length]) s0 (by omega)).mono ?_
    rintro e w6 ⟨rfl, hr6, hc6⟩
    have HP6 := Lib.hid (HP5.out.num hr6 hc6)
    clear hr6 hc6 HP5
    go_wp2_with fail
    refine (numB_calls g (w.heap.size + 1) (Le.le 1 o.node ++ (Le.le 4 o.gen ++ [])) false 1 o.slot w6 HP6.out.rd (by decide) (by simp [Le.le_length]) t0 (by omega)).mono ?_
    rintro e w7 ⟨rfl, hr7, hc7⟩
    have HP7 := Lib.hid (HP6.out.num hr7 hc7)
    clear hr7 hc7 HP6
    have k1 : w7.cell? ⟨g5, 1, none⟩ = some (.int .u32 0) := blk_cell (i := 1) HP7.out.box (Ext.refl _) rfl
    have f1 : w7.frozen? ⟨g5, 1, none⟩ = false := Pack.free_of HP7.out.box 1
    have k7 : w7.cell? ⟨g5, 7, none⟩ = some (.int .i64 0) := blk_cell (i := 7) HP7.out.box (Ext.refl _) rfl
    have f7 : w7.frozen? ⟨g5, 7, none⟩ = false := Pack.free_of HP7.out.box 7
    have k8 : w7.cell? ⟨g5, 8, none⟩ = some (.int .i64 0) := blk_cell (i := 8) HP7.out.box (Ext.refl _) rfl
    have f8 : w7.frozen? ⟨g5, 8, none⟩ = false := Pack.free_of HP7.out.box 8
    go_upto_region 16 with fail
    have hs1 := set_blk (i := 1) HP7.out.box (.int .u32 o.num)
    have hs2 := set_blk (i := 7) hs1 (.int .i64 o.stripe)
    have hs := set_blk (i := 8) hs2 (.int .i64 o.slot)
    have hcs : Chg (fun i => i = g5) w7 (((w7.setCell ⟨g5, 1, none⟩ (.int .u32 o.num)).setCell ⟨g5, 7, none⟩ (.int .i64 o.stripe)).setCell ⟨g5, 8, none⟩ (.int .i64 o.slot)) := (((Chg.refl (fun i => i = g5) w7).setCell (p := ⟨g5, 1, none⟩) rfl _).setCell (p := ⟨g5, 7, none⟩) rfl _).setCell (p := ⟨g5, 8, none⟩) rfl _
    clear hs1 hs2
    generalize ((w7.setCell ⟨g5, 1, none⟩ (.int .u32 o.num)).setCell ⟨g5, 7, none⟩ (.int .i64 o.stripe)).setCell ⟨g5, 8, none⟩ (.int .i64 o.slot) = w10 at *
    have HP10 : Hid (PS w w10 w.heap.size g g5 ⟨o.kind, o.num, ⟨#[]⟩, 0, 0, 0, none, 0, 0, [], o.stripe, o.slot, 0, 0⟩ (Le.le 1 o.node ++ (Le.le 4 o.gen ++ []))) := Lib.hid (HP7.out.put (by simpa using hs) hcs)
    clear hs hcs HP7 k1 f1 k7 f7 k8 f8
    go_wp2_with fail
    refine (numB_calls g (w.heap.size + 1) (Le.le 4 o.gen ++ []) false 1 o.node w10 HP10.out.rd (by decide) (by simp [Le.le_length]) n0 (by omega)).mono ?_
    rintro e w11 ⟨rfl, hr11, hc11⟩
    have HP11 := Lib.hid (HP10.out.num hr11 hc11)
    clear hr11 hc11 HP10
    go_wp2_with fail
    refine (numB_calls g (w.heap.size + 1) [] false 4 o.gen w11 HP11.out.rd (by decide) (by simp) g0 (by omega)).mono ?_
    rintro e w12 ⟨rfl, hr12, hc12⟩
    have HP12 := Lib.hid (HP11.out.num hr12 hc12)
    clear hr12 hc12 HP11
    go_upto_region 17 with (refine Splice.wpList_storeB 80 _ _ rfl rfl rfl g5 9 #[.int .i64 o.node, .int .u32 o.gen] rfl rfl 82 _ HP12.out.box (by kernel_rfl) (by simp) (by simp [Value.oneCell']) ?_; intro w13 hg13 hc13)
    have HP : Hid (PS w w13 w.heap.size g g5 ⟨o.kind, o.num, ⟨#[]⟩, 0, 0, 0, none, 0, 0, [], o.stripe, o.slot, o.node, o.gen⟩ []) := Lib.hid (HP12.out.put (by simpa [Splice.putAt] using hg13) hc13)
    clear hg13 hc13 HP12
    have HLK : Hid (Like2 (norm o) ⟨o.kind, o.num, ⟨#[]⟩, 0, 0, 0, none, 0, 0, [], o.stripe, o.slot, o.node, o.gen⟩) := Lib.hid (by
      have e := HKK.out
      have e2 : ¬ o.kind = 2 := by omega
      unfold norm
      rw [if_neg e2]
      exact ⟨rfl, rfl, rfl, fun k => absurd (HKK.out.symm.trans k) (by decide), fun k => absurd k e2, fun k => absurd (HKK.out.symm.trans k) (by decide), fun _ => ⟨rfl, rfl, rfl, rfl, rfl⟩⟩)
    go_wp2_with fail
    refine (done_calls g (w.heap.size + 1) _ HP.out.rd).mono ?_
    rintro e w8 ⟨rfl, he8⟩
    have HB8 := Lib.hid (he8.at_ HP.out.box)
    have HR8 := Lib.hid (he8.at_ HP.out.res)
    have HE8 := Lib.hid (HP.out.ext.trans he8)
    have HX8 := Lib.hid he8
    clear he8 HP
    go_wp2_with (first | (refine wpList_load_rowG rfl 82 _ rfl g5 rfl 82 #[.int .i64 o.kind, .int .u32 o.num, .string ⟨#[]⟩, .int .i64 0, .int .i64 0, .int .i64 0, .slice none 0 0, .int .i64 o.stripe, .int .i64 o.slot, .int .i64 o.node, .int .u32 o.gen] (0, 0) _ HB8.out Try.underlying82 rfl (by kernel_rfl) ?_) | (refine RowSt.wpList_put 82 _ _ rfl rfl rfl w.heap.size #[.int .i64 o.kind, .int .u32 o.num, .string ⟨#[]⟩, .int .i64 0, .int .i64 0, .int .i64 0, .slice none 0 0, .int .i64 o.stripe, .int .i64 o.slot, .int .i64 o.node, .int .u32 o.gen] rfl rfl 82 _ HR8.out (by kernel_rfl) rfl (by simp [Value.oneCell']) ?_; intro w9 hb9 hc9))
    refine bodyPost_ret (v := .tuple #[.agg #[.int .i64 o.kind, .int .u32 o.num, .string ⟨#[]⟩, .int .i64 0, .int .i64 0, .int .i64 0, .slice none 0 0, .int .i64 o.stripe, .int .i64 o.slot, .int .i64 o.node, .int .u32 o.gen], .int .i64 0]) (RowSt.results_cell_tmp (p := 2) (q := 3) rfl _ _ w.heap.size 82 _ (0, 0) _ rfl hb9 Try.underlying82 rfl (by kernel_rfl)) rfl ?_
    exact HQ.out ⟨o.kind, o.num, ⟨#[]⟩, 0, 0, 0, none, 0, 0, [], o.stripe, o.slot, o.node, o.gen⟩ w9 (HE8.out.chg hc9 fun i hi => by have hi : i = w.heap.size := hi; omega) HLK.out (at_flat HF.out.num.1 HF.out.num.2 (Nat.zero_le _) g0 g1 n0 n1)
end Go.Proofs.Ytipmkddcdnbihaa.Bk
namespace Go.Proofs.Ytipmkddcdnbihaa.Seal
open Go.RowKit Base

set_option maxHeartbeats 400000 in
theorem go_calls (s : Int) (A : Option Addr) (n cap : Nat) (zs : List Int) (w : World) (hs : Crc.U32 s) (hr : Rd w .u8 A n zs) :
    Calls Try.prog 224 #[.int .u32 s, .slice A n cap] w fun e w' => e = .returned (.int .u32 (Crc.sumOn s zs)) ∧ w = w' := by
  have H0 := Lib.hid (Crc.not_u32 hs)
  have hm := hr.room
  have HR := Lib.hid hr
  have HN := Lib.hid hr.len
  have HS := Lib.hid hs
  clear hr hs
  go_enter Try.func224, Try.ntmps224
  go_wp2
  rw [H0.out]
  go_loop [5, 12] (fun t i => ∃ k : Nat, k ≤ n ∧ i = .int .i64 k ∧ t = .int .u32 (Crc.run (4294967295 - s) (zs.take k))) (fun _ i => n - (intOf i).toNat)
  case atStart => exact ⟨0, Nat.zero_le _, rfl, rfl⟩
  case round =>
    obtain ⟨k, hk, rfl, rfl⟩ := hrel
    have hu : Crc.U32 (Crc.run (4294967295 - s) (zs.take k)) := Crc.run_u32 _ (by have := HS.out; unfold Crc.U32 at *; omega)
    have HU := Lib.hid hu
    clear hu
    by_cases hlt : k < n
    · obtain ⟨ad, rfl, hcell⟩ := HR.out.at_ hlt
      obtain ⟨hz0, hz1⟩ := wf_u8 (HR.out.wfAt hlt)
      generalize hg : zs.getD k 0 = c at *
      have HG := Lib.hid hg
      clear hg
      go_wp2
      have hx := Crc.xor_u32 (Crc.run (4294967295 - s) (List.take k zs)) c
      have hX : Crc.byte (Crc.run (4294967295 - s) (List.take k zs)) c = Crc.bitsN 8 (Go.bits .xor .u32 (Crc.run (4294967295 - s) (List.take k zs)) c) := rfl
      rw [← Crc.run_snoc, ← take_next HR.out.len hlt HG.out] at hX
      have HX := Lib.hid hX
      clear hX
      generalize Go.bits .xor .u32 (Crc.run (4294967295 - s) (List.take k zs)) c = x at *
      have HXU := Lib.hid hx
      clear hx
      go_loop [5, 20] (fun t i => ∃ j : Nat, j ≤ 8 ∧ i = .int .i64 j ∧ t = .int .u32 (Crc.bitsN j x)) (fun _ i => 8 - (intOf i).toNat)
      case atStart => exact ⟨0, Nat.zero_le _, rfl, rfl⟩
      case round =>
        obtain ⟨j, hj, rfl, rfl⟩ := hrel
        have hju := Crc.bitsN_u32 j HXU.out
        have HJU := Lib.hid hju
        have hsn := Lib.hid (Crc.bitsN_snoc j x)
        have hj0 : 0 ≤ Crc.bitsN j x := hju.1
        have hj1 : Crc.bitsN j x < 4294967296 := hju.2
        clear hju
        by_cases hlj : j < 8
        · have ha := Crc.and_one HJU.out
          by_cases ho : Crc.bitsN j x % 2 = 1
          · have hb : (Go.bits .and .u32 (Crc.bitsN j x) 1 == 1) = true := by rw [ha, ho]; rfl
            have HS1 := Lib.hid (hsn.out.trans (Crc.bit_odd ho))
            clear ha ho
            go_wp2
            go_round
            case rel => exact ⟨j + 1, by omega, by go_num, by rw [HS1.out]⟩
            case measure => simp [intOf]; omega
          · have hb : (Go.bits .and .u32 (Crc.bitsN j x) 1 == 1) = false := by rw [ha]; exact beq_eq_false_iff_ne.2 ho
            have HS1 := Lib.hid (hsn.out.trans (Crc.bit_even ho))
            clear ha ho
            go_wp2
            go_round
            case rel => exact ⟨j + 1, by omega, by go_num, by rw [HS1.out]⟩
            case measure => simp [intOf]; omega
        · obtain rfl : j = 8 := by omega
          go_wp2
          go_round
          case rel => exact ⟨k + 1, by omega, by go_num, by rw [HX.out]⟩
          case measure => simp [intOf]; omega
    · obtain rfl : k = n := by omega
      have HT : Hid (zs.take k = zs) := Lib.hid (List.take_of_length_le (by rw [HN.out]; omega))
      have H1 := Lib.hid (Crc.not_u32 HU.out)
      go_wp2
      rw [H1.out, HT.out]
      go_ret
      exact ⟨rfl, rfl⟩

theorem sum_calls (A : Option Addr) (n cap : Nat) (zs : List Int) (w : World) (hr : Rd w .u8 A n zs) :
    Calls Try.prog 225 #[.slice A n cap] w fun e w' => e = .returned (.int .u32 (Crc.sum zs)) ∧ w = w' := by
  have HR := Lib.hid hr
  clear hr
  go_enter Try.func225, Try.ntmps225
  go_wp2_with (go_at_call 224; refine (go_calls _ _ _ _ zs _ (by unfold Crc.U32; omega) HR.out).mono ?_; rintro e w' ⟨rfl, rfl⟩)
  go_ret
  exact ⟨rfl, rfl⟩

set_option maxHeartbeats 400000 in
theorem refsum_calls (A : Option Addr) (n cap : Nat) (zs : List Int) (w : World) (hr : Rd w .u8 A n zs) :
    Calls Try.prog 235 #[.slice A n cap] w fun e w' => e = .returned (.int .u32 (Crc.sum zs)) ∧ w = w' := by
  have hm := hr.room
  have HR := Lib.hid hr
  have HN := Lib.hid hr.len
  clear hr
  go_enter Try.func235, Try.ntmps235
  go_wp2
  go_loop [3, 4] (fun t i => ∃ k : Nat, k ≤ n ∧ i = .int .i64 k ∧ t = .int .u32 (Crc.run 4294967295 (zs.take k))) (fun _ i => n - (intOf i).toNat)
  case atStart => exact ⟨0, Nat.zero_le _, rfl, rfl⟩
  case round =>
    obtain ⟨k, hk, rfl, rfl⟩ := hrel
    have hu : Crc.U32 (Crc.run 4294967295 (zs.take k)) := Crc.run_u32 _ (by unfold Crc.U32 at *; omega)
    have HU := Lib.hid hu
    clear hu
    by_cases hlt : k < n
    · obtain ⟨ad, rfl, hcell⟩ := HR.out.at_ hlt
      obtain ⟨hz0, hz1⟩ := wf_u8 (HR.out.wfAt hlt)
      generalize hg : zs.getD k 0 = c at *
      have HG := Lib.hid hg
      clear hg
      go_wp2
      have hx := Crc.xor_u32 (Crc.run 4294967295 (List.take k zs)) c
      have hX : Crc.byte (Crc.run 4294967295 (List.take k zs)) c = Crc.bitsN 8 (Go.bits .xor .u32 (Crc.run 4294967295 (List.take k zs)) c) := rfl
      rw [← Crc.run_snoc, ← take_next HR.out.len hlt HG.out] at hX
      have HX := Lib.hid hX
      clear hX
      generalize Go.bits .xor .u32 (Crc.run 4294967295 (List.take k zs)) c = x at *
      have HXU := Lib.hid hx
      clear hx
      go_loop [3, 5, 6] (fun t i _ => ∃ j : Nat, j ≤ 8 ∧ i = .int .i64 j ∧ t = .int .u32 (Crc.bitsN j x)) (fun _ i _ => 8 - (intOf i).toNat)
      case atStart => exact ⟨0, Nat.zero_le _, rfl, rfl⟩
      case round =>
        obtain ⟨j, hj, rfl, rfl⟩ := hrel
        have hju := Crc.bitsN_u32 j HXU.out
        have hsn := Lib.hid (Crc.bitsN_snoc j x)
        have hj0 : 0 ≤ Crc.bitsN j x := hju.1
        have hj1 : Crc.bitsN j x < 4294967296 := hju.2
        clear hju
        by_cases hlj : j < 8
        · by_cases ho : Crc.bitsN j x % 2 = 1
          · have hb : (Crc.bitsN j x % 2 == 1) = true := by rw [ho]; rfl
            have HS1 := Lib.hid (hsn.out.trans (Crc.bit_odd ho))
            clear ho
            go_wp2
            go_round
            case rel => exact ⟨j + 1, by omega, by go_num, by rw [HS1.out]⟩
            case measure => simp [intOf]; omega
          · have hb : (Crc.bitsN j x % 2 == 1) = false := beq_eq_false_iff_ne.2 ho
            have HS1 := Lib.hid (hsn.out.trans (Crc.bit_even ho))
            clear ho
            go_wp2
            go_round
            case rel => exact ⟨j + 1, by omega, by go_num, by rw [HS1.out]⟩
            case measure => simp [intOf]; omega
        · obtain rfl : j = 8 := by omega
          go_wp2
          go_round
          case rel => exact ⟨k + 1, by omega, by go_num, by rw [HX.out]⟩
          case measure => simp [intOf]; omega
    · obtain rfl : k = n := by omega
      have HT : Hid (zs.take k = zs) := Lib.hid (List.take_of_length_le (by rw [HN.out]; omega))
      have hu0 := HU.out.1
      have hu1 := HU.out.2
      go_wp2
      rw [HT.out]
      go_ret
      exact ⟨rfl, rfl⟩

end Go.Proofs.Ytipmkddcdnbihaa.Seal
namespace Go.Proofs.Ytipmkddcdnbihaa.SealFrame
open Go.RowKit Base

set_option maxHeartbeats 400000 in
set_option maxRecDepth 100000 in
theorem frame_none (kind : Int) (A : Option Addr) (n c : Nat) (w : World) (hn : 65536 < n) (hm : n ≤ 9223372036854775807) :
    Calls Try.prog 182 #[.int .u16 kind, .slice A n c] w fun e w' => e = .returned (.slice none 0 0) ∧ w = w' := by
  go_enter Try.func182, Try.ntmps182
  go_wp2
  go_ret
  exact ⟨rfl, rfl⟩

set_option maxHeartbeats 400000 in
set_option maxRecDepth 100000 in
theorem frame_calls (kind : Int) (A : Option Addr) (n c : Nat) (xs : List Int) (w : World) (hk0 : 0 ≤ kind) (hk1 : kind < 65536) (hr : Rd w .u8 A n xs) (hn : n ≤ 65536) :
    Calls Try.prog 182 #[.int .u16 kind, .slice A n c] w fun e w' => ∃ A' c', e = .returned (.slice A' (12 + n) c') ∧ Own w' (fun i => w.heap.size ≤ i) 5 1 (.slice A' (12 + n) c') (12 + n) (nums .u8 (Frm.frame kind xs)) ∧ Below w.heap.size w w' := by
  have HR := Lib.hid hr
  clear hr
  go_enter Try.func182, Try.ntmps182
  go_wp2_with fail
  refine (Pack.num_calls (fun i => w.heap.size ≤ i) w.heap.size [] 53021 2 _ (by intro i hi; simp at hi; omega) (Pack.writer_new _ w (Nat.le_refl _)) (by omega) (by omega) (by omega) (by omega) (by simp)).mono ?_
  rintro e w1 ⟨rfl, hw1, hc1⟩
  have HW1 := Lib.hid hw1
  have HC1 := Lib.hid (((Chg.refl _ _).alloc _).trans hc1)
  clear hw1 hc1
  go_wp2_with fail
  refine (Pack.num_calls (fun i => w.heap.size ≤ i) w.heap.size _ kind 2 _ (by intro i hi; exact Nat.le_trans HC1.out.size hi) HW1.out (by omega) (by omega) (by omega) (by omega) (by simp [Le.le_length])).mono ?_
  rintro e w2 ⟨rfl, hw2, hc2⟩
  have HW2 := Lib.hid hw2
  have HC2 := Lib.hid (HC1.out.trans hc2)
  clear hw2 hc2
  go_wp2_with fail
  refine (Pack.num_calls (fun i => w.heap.size ≤ i) w.heap.size _ n 4 _ (by intro i hi; exact Nat.le_trans HC2.out.size hi) HW2.out (by omega) (by omega) (by omega) (by omega) (by simp [Le.le_length])).mono ?_
  rintro e w3 ⟨rfl, hw3, hc3⟩
  have hh : [] ++ Le.le (2 : Int).toNat 53021 ++ Le.le (2 : Int).toNat kind ++ Le.le (4 : Int).toNat n = Frm.head kind n := rfl
  rw [hh] at hw3
  have HW3 := Lib.hid hw3
  have HC3 := Lib.hid (HC2.out.trans hc3)
  clear hw3 hc3 hh
  go_wp2_with fail
  refine (Pack.bytes_calls (fun i => w.heap.size ≤ i) w.heap.size _ _ HW3.out (by rw [Frm.head_length]; omega)).mono ?_
  rintro e w4 ⟨A4, c4, rfl, ho4, hb4⟩
  have HW4 := Lib.hid (HW3.out.below hb4)
  have HC4 := Lib.hid (HC3.out.trans (Below.chg hb4))
  have HR4 := Lib.hid (HR.out.below HC4.out.below)
  have HH4 := Lib.hid (ho4.rd HW3.out.wf)
  clear ho4 hb4
  go_wp2_with fail
  refine (Seal.sum_calls _ _ _ _ _ HH4.out).mono ?_
  rintro e w' ⟨rfl, rfl⟩
  go_wp2_with fail
  refine (Seal.go_calls _ _ _ _ _ _ (Crc.sum_u32 _) HR4.out).mono ?_
  rintro e w' ⟨rfl, rfl⟩
  have hs := Crc.sumOn_u32 (Crc.sum_u32 (Frm.head kind n)) xs
  have hs0 := hs.1
  have hs1 := hs.2
  have hsa : Crc.sumOn (Crc.sum (Frm.head kind n)) xs = Crc.sum (Frm.head kind n ++ xs) := Crc.sumOn_append _ _ _
  rw [hsa] at hs0 hs1 ⊢
  clear hs hsa
  go_wp2_with fail
  refine (Pack.num_calls (fun i => w.heap.size ≤ i) w.heap.size _ (Crc.sum (Frm.head kind n ++ xs)) 4 _ (by intro i hi; exact Nat.le_trans HC4.out.size hi) HW4.out (by omega) (by omega) (by omega) (by omega) (by rw [Frm.head_length]; omega)).mono ?_
  rintro e w5 ⟨rfl, hw5, hc5⟩
  have HW5 := Lib.hid hw5
  have HC5 := Lib.hid (HC4.out.trans hc5)
  have HR5 := Lib.hid (HR.out.below HC5.out.below)
  clear hw5 hc5
  go_wp2_with fail
  refine (Pack.wraw_calls (fun i => w.heap.size ≤ i) w.heap.size _ _ _ _ _ _ (by intro i hi; exact Nat.le_trans HC5.out.size hi) HW5.out HR5.out (by simp [Frm.head_length, Le.le_length]) (by omega)).mono ?_
  rintro e w6 ⟨rfl, hw6, hc6⟩
  have hl := HR.out.len
  have hh : Frm.head kind n ++ Le.le (4 : Int).toNat (Crc.sum (Frm.head kind n ++ xs)) ++ xs = Frm.frame kind xs := by unfold Frm.frame; rw [hl]; rfl
  rw [hh] at hw6
  have hfl : (Frm.frame kind xs).length = 12 + n := by rw [Frm.frame_length, hl]
  have HFL := Lib.hid hfl
  have HW6 := Lib.hid hw6
  have HC6 := Lib.hid (HC5.out.trans hc6)
  clear hw6 hc6 hh hl hfl
  go_wp2_with fail
  refine (Pack.bytes_calls (fun i => w.heap.size ≤ i) w.heap.size _ _ HW6.out (by rw [HFL.out]; omega)).mono ?_
  rintro e w7 ⟨A7, c7, rfl, ho7, hb7⟩
  rw [HFL.out] at ho7 ⊢
  have HO7 := Lib.hid (ho7.mono fun i _ h => Nat.le_trans HC6.out.size h)
  have HB7 := Lib.hid (HC6.out.trans (Below.chg hb7)).below
  clear ho7 hb7
  go_wp2_with fail
  go_ret
  exact ⟨A7, c7, rfl, HO7.out, HB7.out⟩
end Go.Proofs.Ytipmkddcdnbihaa.SealFrame
namespace Go.Proofs.Ytipmkddcdnbihaa.SealOpen
open Go.RowKit Base
open Frm (mOf kOf nOf sOf loadOf form good)
open Pack (rn rx rt)

theorem rn_yes {k : Nat} {xs : List Int} (h : k ≤ xs.length) : rn k xs = Le.of (xs.take k) := if_pos h
theorem rx_yes {k : Nat} {xs : List Int} (h : k ≤ xs.length) : rx k xs = xs.drop k := if_pos h
theorem rt_yes {k : Nat} {xs : List Int} {t : Bool} (h : k ≤ xs.length) : rt k xs t = t := if_pos h
theorem torn_short {xs : List Int} (h : xs.length < 12) : rt 4 (rx 4 (rx 2 (rx 2 xs))) (rt 4 (rx 2 (rx 2 xs)) (rt 2 (rx 2 xs) (rt 2 xs false))) = true := by
  by_cases h1 : 2 ≤ xs.length
  · rw [rx_yes h1, rt_yes h1]
    by_cases h2 : 2 ≤ (xs.drop 2).length
    · rw [rx_yes h2, rt_yes h2]
      by_cases h3 : 4 ≤ ((xs.drop 2).drop 2).length
      · rw [rx_yes h3, rt_yes h3]
        exact if_neg (by simp at *; omega)
      · have e : rx 4 ((xs.drop 2).drop 2) = [] := if_neg h3
        rw [e]; rfl
    · have e : rx 2 (xs.drop 2) = [] := if_neg h2
      rw [e]; rfl
  · have e : rx 2 xs = [] := if_neg h1
    rw [e]; rfl
theorem long_all {xs : List Int} (h : 12 ≤ xs.length) : rn 2 xs = mOf xs ∧ rn 2 (rx 2 xs) = kOf xs ∧ rn 4 (rx 2 (rx 2 xs)) = nOf xs ∧ rn 4 (rx 4 (rx 2 (rx 2 xs))) = sOf xs ∧ rx 4 (rx 4 (rx 2 (rx 2 xs))) = xs.drop 12 ∧
    rt 4 (rx 4 (rx 2 (rx 2 xs))) (rt 4 (rx 2 (rx 2 xs)) (rt 2 (rx 2 xs) (rt 2 xs false))) = false := by
  rw [rx_yes (k := 2) (xs := xs) (by omega), rx_yes (k := 2) (by simp; omega), rx_yes (k := 4) (by simp; omega), rx_yes (k := 4) (by simp; omega), rt_yes (k := 4) (by simp; omega), rt_yes (k := 4) (by simp; omega), rt_yes (k := 2) (by simp; omega), rt_yes (k := 2) (by omega),
    rn_yes (k := 2) (xs := xs) (by omega), rn_yes (k := 2) (by simp; omega), rn_yes (k := 4) (by simp; omega), rn_yes (k := 4) (by simp; omega)]
  simp [mOf, kOf, nOf, sOf, List.drop_drop]
theorem rn_lo {k : Nat} {xs : List Int} (h : Le.U8s xs) (hk : k ≤ 8) : 0 ≤ rn k xs ∧ rn k xs < 18446744073709551616 := by
  unfold rn
  split
  · rename_i hl
    have hb := Le.of_take_bound h rfl hl
    have : (256 : Int) ^ k ≤ 256 ^ 8 := by
      have h1 : (256 : Nat) ^ k ≤ 256 ^ 8 := Nat.pow_le_pow_right (by omega) hk
      have h2 : ((256 ^ k : Nat) : Int) ≤ ((256 ^ 8 : Nat) : Int) := Int.ofNat_le.2 h1
      simpa using h2
    omega
  · omega
theorem rx_u8 {k : Nat} {xs : List Int} (h : Le.U8s xs) : Le.U8s (rx k xs) := by
  unfold rx
  split
  · exact fun x hx => h x (List.mem_of_mem_drop hx)
  · intro x hx; cases hx
theorem rx_length (k : Nat) (xs : List Int) : (rx k xs).length ≤ xs.length := by
  unfold rx
  split <;> simp

/-- What an opened frame comes to. -/
def Opened (xs : List Int) (w : World) (e : Ending) (w' : World) : Prop :=
  Below w.heap.size w w' ∧ ((¬ form xs ∧ e = .returned (.tuple #[.int .u16 0, .slice none 0 0, .int .i64 0, .int .i64 21])) ∨
    (form xs ∧ ¬ good xs ∧ e = .returned (.tuple #[.int .u16 0, .slice none 0 0, .int .i64 0, .int .i64 22])) ∨
    (form xs ∧ good xs ∧ ∃ A' c', e = .returned (.tuple #[.int .u16 (kOf xs), .slice A' (nOf xs).toNat c', .int .i64 (12 + nOf xs), .int .i64 0]) ∧ Own w' (fun i => w.heap.size ≤ i) 5 1 (.slice A' (nOf xs).toNat c') (nOf xs).toNat (nums .u8 (loadOf xs))))
set_option maxHeartbeats 800000 in
set_option maxRecDepth 100000 in
theorem open_calls (A : Option Addr) (n c : Nat) (xs : List Int) (w : World) (hr : Rd w .u8 A n xs) (hc : n ≤ c) (h0 : A = none → c = 0) (hn : n ≤ 1099511627776) :
    Calls Try.prog 176 #[.slice A n c] w (Opened xs w) := by
  have HR := Lib.hid hr
  have HL := Lib.hid hr.len
  have HU : Hid (Le.U8s xs) := Lib.hid fun x hx => wf_u8 (hr.wf x hx)
  have H0 := Lib.hid h0
  clear hr h0
  go_enter Try.func176, Try.ntmps176
  go_wp2_with fail
  refine (Pack.read_calls A n c xs w HR.out hc H0.out).mono ?_
  rintro e w1 ⟨rfl, hr1, hb1⟩
  have HR1 := Lib.hid hr1
  have HC1 := Lib.hid (Below.chg (S := fun i => w.heap.size ≤ i) hb1)
  clear hr1 hb1
  go_wp2_with fail
  refine (Pack.rnum_calls w.heap.size _ _ 2 _ HR1.out (by omega) (by omega) (by rw [HL.out]; omega)).mono ?_
  rintro e w2 ⟨rfl, hr2, hc2⟩
  have HR2 := Lib.hid hr2
  have HC2 := Lib.hid (HC1.out.step hc2 fun i _ h => by omega)
  clear hr2 hc2
  go_wp2_with fail
  refine (Pack.rnum_calls w.heap.size _ _ 2 _ HR2.out (by omega) (by omega) (by have := rx_length 2 xs; rw [HL.out] at this; exact Nat.le_trans this hn)).mono ?_
  rintro e w3 ⟨rfl, hr3, hc3⟩
  have HR3 := Lib.hid hr3
  have HC3 := Lib.hid (HC2.out.step hc3 fun i _ h => by omega)
  clear hr3 hc3
  go_wp2_with fail
  refine (Pack.rnum_calls w.heap.size _ _ 4 _ HR3.out (by omega) (by omega) (by have := rx_length 2 xs; have := rx_length 2 (rx 2 xs); rw [HL.out] at *; exact Nat.le_trans (Nat.le_trans ‹_› ‹_›) hn)).mono ?_
  rintro e w4 ⟨rfl, hr4, hc4⟩
  have HR4 := Lib.hid hr4
  have HC4 := Lib.hid (HC3.out.step hc4 fun i _ h => by omega)
  clear hr4 hc4
  go_wp2_with fail
  refine (Pack.rnum_calls w.heap.size _ _ 4 _ HR4.out (by omega) (by omega) (by have := rx_length 2 xs; have := rx_length 2 (rx 2 xs); have := rx_length 4 (rx 2 (rx 2 xs)); rw [HL.out] at *; simp at *; omega)).mono ?_
  rintro e w5 ⟨rfl, hr5, hc5⟩
  have HR5 := Lib.hid hr5
  have HC5 := Lib.hid (HC4.out.step hc5 fun i _ h => by omega)
  clear hr5 hc5
  have hm := rn_lo (k := 2) HU.out (by omega)
  by_cases hs : xs.length < 12
  · have hr5 := HR5.out
    simp only [show Int.toNat 2 = 2 from rfl, show Int.toNat 4 = 4 from rfl] at hr5
    rw [torn_short hs] at hr5
    have HR6 := Lib.hid hr5
    clear hr5 hm
    go_wp2_with fail
    refine (Pack.torn_calls _ _ _ _ HR6.out).mono ?_
    rintro e w6 ⟨rfl, rfl⟩
    go_wp2_with fail
    exact bodyPost_ret (v := .tuple #[.int .u16 0, .slice none 0 0, .int .i64 0, .int .i64 21]) (by simp [results, Try.results176, go_sem]) rfl ⟨HC5.out.below, .inl ⟨fun h => by have := h.1; omega, rfl⟩⟩
  · have hlen : 12 ≤ xs.length := by omega
    obtain ⟨e1, e2, e3, e4, e5, e6⟩ := long_all hlen
    have hr5 := HR5.out
    simp only [show Int.toNat 2 = 2 from rfl, show Int.toNat 4 = 4 from rfl] at hr5
    rw [e5, e6] at hr5
    have HR6 := Lib.hid hr5
    rw [e1] at hm
    have hm0 := hm.1
    have hm1 := hm.2
    have hk := rn_lo (k := 2) (rx_u8 (k := 2) HU.out) (by omega)
    have hnn := Le.of_take_bound (n := (xs.drop 4).length) (fun x hx => HU.out x (List.mem_of_mem_drop hx)) rfl (j := 4) (by simp; omega)
    have hss := Le.of_take_bound (n := (xs.drop 8).length) (fun x hx => HU.out x (List.mem_of_mem_drop hx)) rfl (j := 4) (by simp; omega)
    have hkk := Le.of_take_bound (n := (xs.drop 2).length) (fun x hx => HU.out x (List.mem_of_mem_drop hx)) rfl (j := 2) (by simp; omega)
    change 0 ≤ nOf xs ∧ nOf xs < 256 ^ 4 at hnn
    change 0 ≤ sOf xs ∧ sOf xs < 256 ^ 4 at hss
    change 0 ≤ kOf xs ∧ kOf xs < 256 ^ 2 at hkk
    have hn0 := hnn.1
    have hn1 : nOf xs < 4294967296 := hnn.2
    have hs0 := hss.1
    have hs1 : sOf xs < 4294967296 := hss.2
    have hk0 := hkk.1
    have hk1 : kOf xs < 65536 := hkk.2
    simp only [show Int.toNat 2 = 2 from rfl, show Int.toNat 4 = 4 from rfl, e1, e2, e3, e4]
    clear e1 e2 e3 e4 e5 e6 hr5 hm hk hnn hss hkk
    go_wp2_with fail
    refine (Pack.torn_calls _ _ _ _ HR6.out).mono ?_
    rintro e w6 ⟨rfl, rfl⟩
    by_cases hme : mOf xs = 53021
    · have hmb : (mOf xs != 53021) = false := by rw [hme]; rfl
      have HME := Lib.hid hme
      clear hme
      by_cases hnl : 65536 < nOf xs
      · go_wp2_with fail
        exact bodyPost_ret (v := .tuple #[.int .u16 0, .slice none 0 0, .int .i64 0, .int .i64 21]) (by simp [results, Try.results176, go_sem]) rfl ⟨HC5.out.below, .inl ⟨fun h => by have := h.2.2.1; omega, rfl⟩⟩
      · go_wp2_with fail
        refine (Pack.left_calls _ _ _ _ HR6.out).mono ?_
        rintro e w6 ⟨rfl, rfl⟩
        have hdl : (xs.drop 12).length = xs.length - 12 := by simp
        rw [hdl]
        clear hdl
        by_cases hnf : xs.length - 12 < nOf xs
        · go_wp2_with fail
          exact bodyPost_ret (v := .tuple #[.int .u16 0, .slice none 0 0, .int .i64 0, .int .i64 21]) (by simp [results, Try.results176, go_sem]) rfl ⟨HC5.out.below, .inl ⟨fun h => by have := h.2.2.2; omega, rfl⟩⟩
        · have hform : form xs := ⟨hlen, HME.out, by omega, by omega⟩
          have HFO := Lib.hid hform
          have hxl : xs.length ≤ 1099511627776 := by rw [HL.out]; exact hn
          have hA0 := HR.out.cell (by have := HL.out; omega)
          obtain ⟨ad, rfl, _⟩ := hA0
          clear hform
          go_wp2_with fail
          refine (Pack.rraw_yes _ _ _ _ _ HR6.out hn0 (by simp; omega) (by simp; omega)).mono ?_
          rintro e w7 ⟨A7, c7, rfl, ho7, _, hc7⟩
          have HO7 := Lib.hid (ho7.mono fun i _ h => Nat.le_trans HC5.out.size h)
          have HC7 := Lib.hid (HC5.out.step hc7 fun i _ h => by omega)
          have hwl : ∀ x ∈ loadOf xs, (Lit.int .u8 x).wf = true := fun x hx => HR.out.wf x (List.mem_of_mem_drop (List.mem_of_mem_take hx))
          have HRL : Hid (Rd w7 .u8 A7 (nOf xs).toNat (loadOf xs)) := Lib.hid (HO7.out.rd hwl)
          have HR8 := Lib.hid (rd_take (HR.out.below HC7.out.below) (m := 8) (by have := HL.out; omega))
          have hc8 : 8 ≤ n := by have := HL.out; omega
          clear ho7 hc7 hwl
          go_wp2_with fail
          refine (Seal.sum_calls _ _ _ _ _ HR8.out).mono ?_
          rintro e w' ⟨rfl, rfl⟩
          go_wp2_with fail
          refine (Seal.go_calls _ _ _ _ _ _ (Crc.sum_u32 _) HRL.out).mono ?_
          rintro e w' ⟨rfl, rfl⟩
          have hsa : Crc.sumOn (Crc.sum (List.take 8 xs)) (loadOf xs) = Crc.sum (List.take 8 xs ++ loadOf xs) := Crc.sumOn_append _ _ _
          rw [hsa]
          clear hsa
          by_cases hgd : Crc.sum (List.take 8 xs ++ loadOf xs) = sOf xs
          · have hgb : (Crc.sum (List.take 8 xs ++ loadOf xs) != sOf xs) = false := by rw [hgd]; simp
            have HGD := Lib.hid hgd
            clear hgd
            go_wp2_with fail
            refine bodyPost_ret (v := .tuple #[.int .u16 (kOf xs), .slice A7 (nOf xs).toNat c7, .int .i64 (12 + nOf xs), .int .i64 0]) (by simp [results, Try.results176, go_sem]) rfl ⟨HC7.out.below, .inr (.inr ⟨HFO.out, HGD.out, A7, c7, rfl, HO7.out⟩)⟩
          · have hgb : (Crc.sum (List.take 8 xs ++ loadOf xs) != sOf xs) = true := by rw [bne_iff_ne]; exact hgd
            have HGD := Lib.hid hgd
            clear hgd
            go_wp2_with fail
            exact bodyPost_ret (v := .tuple #[.int .u16 0, .slice none 0 0, .int .i64 0, .int .i64 22]) (by simp [results, Try.results176, go_sem]) rfl ⟨HC7.out.below, .inr (.inl ⟨HFO.out, HGD.out, rfl⟩)⟩
    · have hmb : (mOf xs != 53021) = true := by rw [bne_iff_ne]; exact hme
      go_wp2_with fail
      exact bodyPost_ret (v := .tuple #[.int .u16 0, .slice none 0 0, .int .i64 0, .int .i64 21]) (by simp [results, Try.results176, go_sem]) rfl ⟨HC5.out.below, .inl ⟨fun h => hme h.2.1, rfl⟩⟩
end Go.Proofs.Ytipmkddcdnbihaa.SealOpen
namespace Go.Proofs.Ytipmkddcdnbihaa.Ref10
open Go.RowKit Base Ref01

set_option maxHeartbeats 400000 in
set_option maxRecDepth 100000 in
theorem frame_calls (kind : Int) (A : Option Addr) (n c : Nat) (xs : List Int) (w : World) (hk0 : 0 ≤ kind) (hk1 : kind < 65536) (hr : Rd w .u8 A n xs) (hn : n ≤ 65536) :
    Calls Try.prog 237 #[.int .u16 kind, .slice A n c] w fun e w' => ∃ A' c', e = .returned (.slice A' (12 + n) c') ∧ Own w' (fun i => w.heap.size ≤ i) 5 1 (.slice A' (12 + n) c') (12 + n) (nums .u8 (Frm.frame kind xs)) ∧ Below w.heap.size w w' := by
  have HR := Lib.hid hr
  have HL := Lib.hid hr.len
  clear hr
  go_enter Try.func237, Try.ntmps237
  go_wp2_with fail
  refine (num_calls 53021 2 _ (by omega) (by omega) (by omega) (by omega)).mono ?_
  rintro e w1 ⟨A1, c1, rfl, ho1, hb1⟩
  have HB1 := Lib.hid hb1
  have HR1 := Lib.hid (ho1.rd fun x hx => by have := Le.le_u8 _ _ x hx; exact u8_wf this.1 this.2)
  clear ho1 hb1
  go_wp2_with fail
  refine (num_calls kind 2 _ (by omega) (by omega) (by omega) (by omega)).mono ?_
  rintro e w2 ⟨A2, c2, rfl, ho2, hb2⟩
  have HB2 := Lib.hid (HB1.out.trans (hb2.mono HB1.out.size))
  have HR1 := Lib.hid (HR1.out.below hb2)
  have HR2 := Lib.hid (ho2.rd fun x hx => by have := Le.le_u8 _ _ x hx; exact u8_wf this.1 this.2)
  clear ho2 hb2
  go_wp2_with fail
  refine (num_calls n 4 _ (by omega) (by omega) (by omega) (by omega)).mono ?_
  rintro e w3 ⟨A3, c3, rfl, ho3, hb3⟩
  have HB3 := Lib.hid (HB2.out.trans (hb3.mono HB2.out.size))
  have HR1 := Lib.hid (HR1.out.below hb3)
  have HR2 := Lib.hid (HR2.out.below hb3)
  have HR3 := Lib.hid (ho3.rd fun x hx => by have := Le.le_u8 _ _ x hx; exact u8_wf this.1 this.2)
  clear ho3 hb3
  go_wp2_with fail
  have hfl : flat [(A1, 2, c1, Le.le 2 53021), (A2, 2, c2, Le.le 2 kind), (A3, 4, c3, Le.le 4 n)] = Frm.head kind n := by simp [flat, Frm.head]
  refine (join_calls _ 3 3 [(A1, 2, c1, Le.le 2 53021), (A2, 2, c2, Le.le 2 kind), (A3, 4, c3, Le.le 4 n)] _ (rdrows_new w3 _ [(A1, 2, c1, Le.le 2 53021), (A2, 2, c2, Le.le 2 kind), (A3, 4, c3, Le.le 4 n)] _ rfl (by
    intro r hr
    simp only [List.mem_cons, List.not_mem_nil, or_false] at hr
    rcases hr with rfl | rfl | rfl
    · exact HR1.out
    · exact HR2.out
    · exact HR3.out)) (by omega) (by rw [hfl, Frm.head_length]; omega)).mono ?_
  rw [hfl, Frm.head_length]
  rintro e w4 ⟨A4, c4, rfl, ho4, hb4⟩
  have HB4 := Lib.hid ((HB3.out.trans ((below_new w3 (.cells #[.slice A1 2 c1, .slice A2 2 c2, .slice A3 4 c3] 55)).mono HB3.out.size)).trans (hb4.mono (by have := HB3.out.size; simp; omega)))
  have HR4 := Lib.hid (ho4.rd fun x hx => by have := Frm.head_u8 _ _ x hx; exact u8_wf this.1 this.2)
  clear ho4 hb4 hfl HR1 HR2 HR3
  have HR4a := Lib.hid (HR4.out.below (below_new _ (.cells #[] 5)))
  have HN4 := Lib.hid HB4.out.size
  go_wp2_with (at_builtin; refine wpList_app _ rfl (.tmp 17) (.tmp 18) 55 rfl (fun i => w4.heap.size ≤ i) 5 .u8 1 Try.underlying55 Pack.info_u8 (by decide) (.slice (some ⟨w4.heap.size, 0, none⟩) 0 0) 0 [] rfl ?c1 A4 8 c4 (Frm.head kind n) rfl HR4a.out ?c2 ?c3 ?_)
  case c1 => exact ⟨World.ownsRow_lit w4 #[] 0 (Nat.zero_le _) (by simp only [maxLen]; omega) rfl, by simp [Value.ownBlock]⟩
  case c2 => omega
  case c3 => intro i hi; simp at hi; omega
  intro A5 c5 w5 ho5 hc5
  try simp only [Nat.zero_add, List.nil_append] at ho5
  have hb5 : Below w4.heap.size w4 w5 := (((Chg.refl _ _).alloc _).step hc5 fun i hi h => by simp [Value.ownBlock] at h; omega).below
  have HO5 := Lib.hid ho5
  have HB5 := Lib.hid (HB4.out.trans (hb5.mono HB4.out.size))
  have HS5 := Lib.hid hb5.size
  have HR5 := Lib.hid (HR.out.below HB5.out)
  have HB45 := Lib.hid hb5
  clear ho5 hc5 hb5 HR4a
  go_wp2_with (at_builtin; refine wpList_app _ rfl (.tmp 19) (.tmp 20) 55 rfl (fun i => w4.heap.size ≤ i) 5 .u8 1 Try.underlying55 Pack.info_u8 (by decide) (.slice A5 8 c5) 8 (Frm.head kind n) rfl HO5.out A n c xs rfl HR5.out ?c2 ?c3 ?_)
  case c2 => omega
  case c3 => exact fun i hi => Nat.le_trans HS5.out hi
  intro A6 c6 w6 ho6 hc6
  have hb6 : Chg (fun i => w4.heap.size ≤ i) w5 w6 := hc6.mono fun i _ h => HO5.out.foot i h
  have HB6 := Lib.hid ((Below.chg HB5.out).step hb6 fun i _ h => Nat.le_trans HN4.out h).below
  have HR4 := Lib.hid (HR4.out.below ((Below.chg HB45.out).trans hb6).below)
  have HR6 := Lib.hid (HR.out.below HB6.out)
  have HR7 := Lib.hid (ho6.rd (wf_append (fun x hx => by have := Frm.head_u8 _ _ x hx; exact u8_wf this.1 this.2) HR.out.wf))
  clear ho6 hc6 hb6
  go_wp2_with fail
  refine (Seal.refsum_calls _ _ _ _ _ HR7.out).mono ?_
  rintro e w' ⟨rfl, rfl⟩
  have hs := Crc.sum_u32 (Frm.head kind n ++ xs)
  have hs0 := hs.1
  have hs1 := hs.2
  clear hs
  go_wp2_with fail
  refine (num_calls (Crc.sum (Frm.head kind n ++ xs)) 4 _ (by omega) (by omega) (by omega) (by omega)).mono ?_
  rintro e w7 ⟨A7, c7, rfl, ho7, hb7⟩
  have HB7 := Lib.hid (HB6.out.trans (hb7.mono HB6.out.size))
  have HR4 := Lib.hid (HR4.out.below hb7)
  have HR6 := Lib.hid (HR6.out.below hb7)
  have HR8 := Lib.hid (ho7.rd fun x hx => by have := Le.le_u8 _ _ x hx; exact u8_wf this.1 this.2)
  clear ho7 hb7
  go_wp2_with fail
  have hfl : flat [(A4, 8, c4, Frm.head kind n), (A7, 4, c7, Le.le 4 (Crc.sum (Frm.head kind n ++ xs))), (A, n, c, xs)] = Frm.frame kind xs := by simp [flat, Frm.frame, HL.out]
  refine (join_calls _ 3 3 [(A4, 8, c4, Frm.head kind n), (A7, 4, c7, Le.le 4 (Crc.sum (Frm.head kind n ++ xs))), (A, n, c, xs)] _ (rdrows_new w7 _ [(A4, 8, c4, Frm.head kind n), (A7, 4, c7, Le.le 4 (Crc.sum (Frm.head kind n ++ xs))), (A, n, c, xs)] _ rfl (by
    intro r hr
    simp only [List.mem_cons, List.not_mem_nil, or_false] at hr
    rcases hr with rfl | rfl | rfl
    · exact HR4.out
    · exact HR8.out
    · exact HR6.out)) (by omega) (by rw [hfl, Frm.frame_length, HL.out]; omega)).mono ?_
  rw [hfl, Frm.frame_length, HL.out]
  rintro e w8 ⟨A8, c8, rfl, ho8, hb8⟩
  have hsz8 : w.heap.size ≤ (w7.alloc (.cells #[.slice A4 8 c4, .slice A7 4 c7, .slice A n c] 55)).heap.size := by have := HB7.out.size; simp; omega
  have HB8 := Lib.hid ((HB7.out.trans ((below_new w7 (.cells #[.slice A4 8 c4, .slice A7 4 c7, .slice A n c] 55)).mono HB7.out.size)).trans (hb8.mono hsz8))
  have HO8 := Lib.hid (ho8.mono (S' := fun i => w.heap.size ≤ i) fun i _ h => Nat.le_trans hsz8 h)
  clear ho8 hb8 hfl HR4 HR6 HR8
  go_wp2_with fail
  go_ret
  exact ⟨A8, c8, rfl, HO8.out, HB8.out⟩
end Go.Proofs.Ytipmkddcdnbihaa.Ref10
namespace Go.Proofs.Ytipmkddcdnbihaa.Ref10Open
open Go.RowKit Base
open Frm (mOf kOf nOf sOf loadOf form good)

theorem rd_cut {w : World} {k : IntKind} {A : Option Addr} {n : Nat} {xs : List Int} (h : Rd w k A n xs) {a b : Nat} (hab : a ≤ b) (hb : b ≤ n) : Rd w k (A.map fun x => x.add a) (b - a) ((xs.drop a).take (b - a)) :=
  rd_take (rd_dropMap h (by omega)) (by omega)

/-- The one slice lies in the other's block. -/
def Sub (A' A : Option Addr) : Prop := ∀ ad', A' = some ad' → ∃ ad, A = some ad ∧ ad'.block = ad.block
theorem sub_map (A : Option Addr) (k : Nat) : Sub (A.map fun x => x.add k) A := fun ad' h => by
  rcases A with _ | ad
  · cases h
  · cases h; exact ⟨ad, rfl, block_add _ _⟩
theorem sub_self (A : Option Addr) : Sub A A := fun ad h => ⟨ad, h, rfl⟩
/-- What the document's Open comes to. -/
def ROpened (A : Option Addr) (xs : List Int) (w : World) (e : Ending) (w' : World) : Prop :=
  Ext w w' ∧ ((¬ form xs ∧ e = .returned (.tuple #[.int .u16 0, .slice none 0 0, .int .i64 21])) ∨
    (form xs ∧ ¬ good xs ∧ e = .returned (.tuple #[.int .u16 0, .slice none 0 0, .int .i64 22])) ∨
    (form xs ∧ good xs ∧ ∃ A' c', e = .returned (.tuple #[.int .u16 (kOf xs), .slice A' (nOf xs).toNat c', .int .i64 0]) ∧ Rd w' .u8 A' (nOf xs).toNat (loadOf xs) ∧ Sub A' A ∧ (nOf xs).toNat ≤ c' ∧ (A' = none → c' = 0)))

set_option maxHeartbeats 1600000 in
set_option maxRecDepth 100000 in
theorem open_calls (A : Option Addr) (n c : Nat) (xs : List Int) (w : World) (hr : Rd w .u8 A n xs) (hc : n ≤ c) (hn : n ≤ 1099511627776) :
    Calls Try.prog 185 #[.slice A n c] w (ROpened A xs w) := by
  have HL := Lib.hid hr.len
  have HU : Hid (Le.U8s xs) := Lib.hid fun x hx => wf_u8 (hr.wf x hx)
  by_cases hs : n < 12
  · go_enter Try.func185, Try.ntmps185
    go_wp2_with fail
    go_ret3
    exact ⟨Ext.refl _, .inl ⟨fun h => by have := h.1; rw [HL.out] at this; omega, rfl⟩⟩
  have hA0 := hr.cell (by omega)
  obtain ⟨ad, rfl, hA0⟩ := hA0
  clear hA0
  have hr4 := rd_cut hr (a := 4) (b := 8) (by omega) (by omega)
  have hr0 := rd_take hr (m := 2) (by omega)
  have hr8 := rd_take hr (m := 8) (by omega)
  have hrs := rd_cut hr (a := 8) (b := 12) (by omega) (by omega)
  have hrk := rd_cut hr (a := 2) (b := 4) (by omega) (by omega)
  have hnn := Le.of_bound ((xs.drop 4).take 4) fun x hx => HU.out x (List.mem_of_mem_drop (List.mem_of_mem_take hx))
  have hss := Le.of_bound ((xs.drop 8).take 4) fun x hx => HU.out x (List.mem_of_mem_drop (List.mem_of_mem_take hx))
  have hkk := Le.of_bound ((xs.drop 2).take 2) fun x hx => HU.out x (List.mem_of_mem_drop (List.mem_of_mem_take hx))
  have hmm := Le.of_bound (xs.take 2) fun x hx => HU.out x (List.mem_of_mem_take hx)
  have hl := HL.out
  rw [List.length_take, List.length_drop, Nat.min_eq_left (by omega)] at hnn hss hkk
  rw [List.length_take, Nat.min_eq_left (by omega)] at hmm
  change 0 ≤ nOf xs ∧ nOf xs < 256 ^ 4 at hnn
  change 0 ≤ sOf xs ∧ sOf xs < 256 ^ 4 at hss
  change 0 ≤ kOf xs ∧ kOf xs < 256 ^ 2 at hkk
  change 0 ≤ mOf xs ∧ mOf xs < 256 ^ 2 at hmm
  have hn0 := hnn.1
  have hn1 : nOf xs < 4294967296 := hnn.2
  have hs0 := hss.1
  have hs1 : sOf xs < 4294967296 := hss.2
  have hk0 := hkk.1
  have hk1 : kOf xs < 65536 := hkk.2
  have hm0 := hmm.1
  have hm1 : mOf xs < 65536 := hmm.2
  clear hnn hss hkk hmm hl
  go_enter Try.func185, Try.ntmps185
  go_wp2_with fail
  refine (Ref01.of_calls _ _ _ _ _ hr4 (by omega)).mono ?_
  rintro e w' ⟨rfl, rfl⟩
  have en : Le.of (List.take (8 - 4) (List.drop 4 xs)) = nOf xs := rfl
  have em : Le.of (List.take 2 xs) = mOf xs := rfl
  have es : Le.of (List.take (12 - 8) (List.drop 8 xs)) = sOf xs := rfl
  have ek : Le.of (List.take (4 - 2) (List.drop 2 xs)) = kOf xs := rfl
  rw [en]
  clear en
  go_wp2_with fail
  refine (Ref01.of_calls _ _ _ _ _ hr0 (by omega)).mono ?_
  rintro e w' ⟨rfl, rfl⟩
  rw [em]
  clear em
  have EK := Lib.hid ek
  have ES := Lib.hid es
  clear ek es
  by_cases hme : mOf xs = 53021
  · have hmb : (mOf xs != 53021) = false := by rw [hme]; rfl
    have HME := Lib.hid hme
    clear hme
    by_cases hnl : 65536 < nOf xs
    · go_wp2_with fail
      go_ret3
      exact ⟨Ext.refl _, .inl ⟨fun h => by have := h.2.2.1; omega, rfl⟩⟩
    by_cases hnf : (n : Int) - 12 < nOf xs
    · go_wp2_with fail
      go_ret3
      exact ⟨Ext.refl _, .inl ⟨fun h => by have := h.2.2.2; rw [HL.out] at this; omega, rfl⟩⟩
    have HF : Hid (form xs) := Lib.hid ⟨by rw [HL.out]; omega, HME.out, by omega, by rw [HL.out]; omega⟩
    obtain ⟨N, hN⟩ : ∃ N : Nat, nOf xs = N := ⟨(nOf xs).toNat, by omega⟩
    have HLO : Hid (loadOf xs = (xs.drop 12).take N) := Lib.hid (by rw [loadOf, hN]; rfl)
    have hrl := rd_cut hr (a := 12) (b := 12 + N) (by omega) (by omega)
    have e1 : 12 + N - 12 = N := by omega
    rw [e1, ← HLO.out] at hrl
    have HNN := Lib.hid hN
    rw [hN] at hnl hnf ⊢
    clear hN e1 hn0 hn1
    have hrl1 : c = 12 → Rd w .u8 (some ad) N (loadOf xs) := fun h => by
      obtain rfl : N = 0 := by omega
      rw [HLO.out]
      exact rd_nil _ _ _
    have HRL1 := Lib.hid hrl1
    clear hrl1
    have HW : Hid (∀ x ∈ List.take 8 xs ++ loadOf xs, (Lit.int .u8 x).wf = true) := Lib.hid (wf_append (fun x hx => hr.wf x (List.mem_of_mem_take hx)) (fun x hx => hr.wf x (by rw [HLO.out] at hx; exact List.mem_of_mem_drop (List.mem_of_mem_take hx))))
    have hc8 : (8 : Int) ≤ (c : Int) := by omega
    have hc12 : (12 : Int) ≤ (c : Int) := by omega
    have hn8 : (8 : Int) ≤ (n : Int) := by omega
    by_cases hcc : c = 12
    all_goals
      first | (have hrl2 := HRL1.out hcc; subst hcc) | have hrl2 := hrl
      clear hrl
      go_wp2_with fail
      go_region_held3 (fun _ => True) (trivial) (first
        | (go_at_call 235; refine (Seal.refsum_calls _ _ _ _ _ (ho2.rd HW.out)).mono ?_; rintro e w' ⟨rfl, rfl⟩)
        | (go_at_call 234; refine (Ref01.of_calls _ _ _ _ _ (hrs.ext he2) (by omega)).mono ?_; rintro e w' ⟨rfl, rfl⟩)
        | (refine step_more w _ (by rfl) _ _ _ (by rfl) 5 .u8 1 Try.underlying55 Pack.info_u8 (by decide) _ 0 [] (by rfl) (own_empty (at_new w _) (Nat.le_refl _)) (Ext.new w _).drew (some ad) 8 _ (xs.take 8) (by rfl) (hr8.ext (Ext.new w _).drew) (by omega) ?_; intro A1 c1 w1 ho1 he1)
        | (refine step_more w _ (by rfl) _ _ _ (by rfl) 5 .u8 1 Try.underlying55 Pack.info_u8 (by decide) _ 8 (xs.take 8) (by rfl) ho1 he1 _ N _ (loadOf xs) (by rfl) (hrl2.ext he1) (by omega) ?_; intro A2 c2 w2 ho2 he2))
      rw [ES.out, wrap_u32 hs0 hs1]
      by_cases hgd : Crc.sum (List.take 8 xs ++ loadOf xs) = sOf xs
      · have hgb : (Crc.sum (List.take 8 xs ++ loadOf xs) != sOf xs) = false := by rw [hgd]; simp
        have HGD := Lib.hid hgd
        clear hgd
        go_wp2_with fail
        refine (Ref01.of_calls _ _ _ _ _ (hrk.ext he2) (by omega)).mono ?_
        rintro e w' ⟨rfl, rfl⟩
        rw [EK.out]
        go_wp2_with fail
        go_ret3
        have h1 := hrl2.ext he2
        exact ⟨he2, .inr (.inr ⟨HF.out, HGD.out, _, _, by rw [HNN.out]; rfl, by rw [HNN.out]; exact h1, by first | exact sub_self _ | exact sub_map (some ad) 12, by rw [HNN.out]; simp only [Int.toNat_natCast]; omega, by intro h; first | cases h | (simp at h)⟩)⟩
      · have hgb : (Crc.sum (List.take 8 xs ++ loadOf xs) != sOf xs) = true := by rw [bne_iff_ne]; exact hgd
        have HGD := Lib.hid hgd
        clear hgd
        go_wp2_with fail
        go_ret3
        exact ⟨he2, .inr (.inl ⟨HF.out, HGD.out, rfl⟩)⟩
  · have hmb : (mOf xs != 53021) = true := by rw [bne_iff_ne]; exact hme
    go_wp2_with fail
    go_ret3
    exact ⟨Ext.refl _, .inl ⟨fun h => hme h.2.1, rfl⟩⟩
end Go.Proofs.Ytipmkddcdnbihaa.Ref10Open
namespace Go.Proofs.Ytipmkddcdnbihaa.Scan
open Go.RowKit Base
open Frm (mOf kOf nOf sOf loadOf form good scan used)

/-- A row of frames in memory: where each stands, its kind, and what it bears. -/
structure Row where
  p : Int
  k : Int
  A : Option Addr
  n : Nat
  c : Nat
  l : List Int
def Row.cells (r : Row) : List Value := [.int .i64 r.p, .int .u16 r.k, .slice r.A r.n r.c]
def Row.it (r : Row) : Int × Int × List Int := (r.p, r.k, r.l)
/-- A slice of frames, newer than w0. -/
structure Items (Z : Nat → Prop) (w0 w : World) (e : TypeId) (A : Option Addr) (n c : Nat) (rows : List Row) : Prop where
  len : rows.length = n
  own : New w0 w e 3 A n c (rows.flatMap Row.cells)
  rd : ∀ r ∈ rows, Rd w .u8 r.A r.n r.l ∧ ∀ e', 5 ≠ e' → Apt w0 e' w r.A r.n
  cap : ∀ r ∈ rows, r.n ≤ r.c ∧ (r.A = none → r.c = 0)
  src : ∀ r ∈ rows, 0 < r.n → ∀ ad, r.A = some ad → Z ad.block
theorem Items.ext {Z : Nat → Prop} {w0 w w' : World} {e : TypeId} {A : Option Addr} {n c : Nat} {rows : List Row} (h : Items Z w0 w e A n c rows) (he : Ext w w') : Items Z w0 w' e A n c rows :=
  ⟨h.len, h.own.extNew he, fun r hr => ⟨(h.rd r hr).1.ext he, fun e' hn => ((h.rd r hr).2 e' hn).ext he⟩, h.cap, h.src⟩
theorem Items.more {Z : Nat → Prop} {w0 w w' : World} {e : TypeId} {A A' : Option Addr} {m c c' : Nat} {rows : List Row} (h : Items Z w0 w e A m c rows) (r : Row) (hne : 5 ≠ e) (hr : Rd w .u8 r.A r.n r.l) (hs : ∀ e', 5 ≠ e' → Apt w0 e' w r.A r.n) (hk : r.n ≤ r.c ∧ (r.A = none → r.c = 0)) (hz : 0 < r.n → ∀ ad, r.A = some ad → Z ad.block)
    (ho : New w0 w' e 3 A' (m + 1) c' (rows.flatMap Row.cells ++ r.cells)) (hg : Chg (fun i => (Value.slice A m c).ownBlock = some i) w w') : Items Z w0 w' e A' (m + 1) c' (rows ++ [r]) :=
  ⟨by simp [h.len], by rw [List.flatMap_append]; simpa using ho, fun r' hr' => by
    have h1 : Rd w .u8 r'.A r'.n r'.l ∧ ∀ e', 5 ≠ e' → Apt w0 e' w r'.A r'.n := by
      rcases List.mem_append.1 hr' with h1 | h1
      · exact h.rd r' h1
      · rw [List.mem_singleton.1 h1]; exact ⟨hr, hs⟩
    exact ⟨h1.1.chg hg ((h1.2 e hne).ne h.own), fun e' hn => (h1.2 e' hn).chg hg ((h1.2 e hne).ne h.own)⟩, fun r' hr' => by
      rcases List.mem_append.1 hr' with h1 | h1
      · exact h.cap r' h1
      · rw [List.mem_singleton.1 h1]; exact hk, fun r' hr' => by
      rcases List.mem_append.1 hr' with h1 | h1
      · exact h.src r' h1
      · rw [List.mem_singleton.1 h1]; exact hz⟩
theorem info_item : (Try.prog.info? 321).map (fun i => (i.zero, i.size, i.bytes)) = some (some (.agg #[.int .i64 0, .int .u16 0, .slice none 0 0]), 3, 40) := by kernel_rfl

def J (w : World) (A : Option Addr) (n c : Nat) (xs : List Int) (a' : Act) (w' : World) : Prop :=
  ∃ (pos m : Nat) (A' : Option Addr) (c' : Nat) (u1 u6 u7 u8 u9 u10 u11 u12 u13 u14 u15 u16 u17 u18 u19 u20 u21 u22 u23 u24 u25 u26 u27 u28 u29 u30 u31 u32 : Value), a' = { tmps := #[.slice A n c, u1, .slice none 0 0, .int .i64 0, .slice A' m c', .int .i64 pos, u6, u7, u8, u9, u10, u11, u12, u13, u14, u15, u16, u17, u18, u19, u20, u21, u22, u23, u24, u25, u26, u27, u28, u29, u30, u31, u32], defers := [] } ∧ pos ≤ n ∧ m ≤ pos ∧
    Hid (Ext w w' ∧ ∃ f rows, Items (fun _ => True) w w' 321 A' m c' rows ∧ rows.map Row.it ++ scan f pos (xs.drop pos) = scan n 0 xs ∧ used f pos (xs.drop pos) = used n 0 xs ∧ (xs.drop pos).length ≤ f)
set_option maxHeartbeats 1600000 in
set_option maxRecDepth 100000 in
theorem scan_calls (A : Option Addr) (n c : Nat) (xs : List Int) (w : World) (hr : Rd w .u8 A n xs) (hc : n ≤ c) (h0 : A = none → c = 0) (hn : n ≤ 1099511627776) :
    Calls Try.prog 211 #[.slice A n c] w fun e w' => Ext w w' ∧ ∃ A' m c' rows, e = .returned (.tuple #[.slice A' m c', .int .i64 (used n 0 xs)]) ∧ Items (fun _ => True) w w' 321 A' m c' rows ∧ rows.map Row.it = scan n 0 xs := by
  have HL := Lib.hid hr.len
  have H0 := Lib.hid h0
  clear h0
  go_enter Try.func211, Try.ntmps211
  go_wp2
  refine wp_scope_jumps2 0 (J w A n c xs) (fun a' _ => n - (intOf (a'.tmps.getD 5 undef)).toNat) rfl ?_ ?_
  · rintro a' w1 ⟨pos, m, A', c', u1, u6, u7, u8, u9, u10, u11, u12, u13, u14, u15, u16, u17, u18, u19, u20, u21, u22, u23, u24, u25, u26, u27, u28, u29, u30, u31, u32, ha, hp, hmp, H⟩
    obtain ⟨he1, hJ⟩ := H.out
    have hr1 := rd_dropMap (hr.ext he1) hp
    have hU1 : Hid (Le.U8s (xs.drop pos)) := Lib.hid fun x hx => wf_u8 (hr1.wf x hx)
    have HL1 : Hid ((xs.drop pos).length = n - pos) := Lib.hid (by simp [HL.out])
    have HR2 : Hid (c = pos → Rd w1 .u8 A (n - pos) (xs.drop pos)) := Lib.hid fun h => by
      have : n - pos = 0 := by omega
      rw [this] at hr1 ⊢
      rw [List.eq_nil_of_length_eq_zero hr1.len]
      exact rd_nil _ _ _
    have HN : Hid (A.map (fun x => x.add pos) = none → c - pos = 0) := Lib.hid fun h => by
      have : A = none := by cases A <;> simp at h ⊢
      have := H0.out this
      omega
    have HJ := Lib.hid hJ
    generalize hys : xs.drop pos = ys at *
    have HYS := Lib.hid hys
    clear H hJ hys
    obtain ⟨f, rows, hi, hs, hu, hf⟩ := HJ.out
    have HU := Lib.hid hu
    have HS := Lib.hid hs
    have HF := Lib.hid hf
    clear hu hs hf
    subst ha
    by_cases hcp : c = pos
    · have hr2 := HR2.out hcp
      have hno : ¬ form ys := fun h => by have := h.1; rw [HL1.out] at this; omega
      have hst := Frm.scan_stop (f := f) (p := (pos : Int)) (fun h => hno h.1)
      rw [hst.1, List.append_nil] at HS
      rw [hst.2] at HU
      clear hst
      have HNO := Lib.hid hno
      clear hno hr1
      go_wp2_with fail
      ((with_reducible refine (SealOpen.open_calls _ _ _ ys _ hr2 ?c1 ?c2 ?c3).mono ?_))
      case c1 => omega
      case c2 => exact fun _ => rfl
      case c3 => omega
      rintro e w2 ⟨hb2, ho⟩
      rcases ho with ⟨_, rfl⟩ | ⟨hfo, _, rfl⟩ | ⟨hfo, _, A4, c4, rfl, ho4⟩
      · go_wp2_with fail
        simp only [Exit.jump]
        go_ret2
        exact ⟨he1.trans hb2, A', m, c', rows, by rw [← HU.out]; rfl, hi.ext hb2, HS.out⟩
      · exact absurd hfo HNO.out
      · exact absurd hfo HNO.out
    · go_wp2_with fail
      ((with_reducible refine (SealOpen.open_calls _ _ _ ys _ hr1 ?c1 ?c2 ?c3).mono ?_))
      case c1 => omega
      case c2 => exact HN.out
      case c3 => omega
      rintro e w2 ⟨hb2, ho⟩
      have he2 : Ext w1 w2 := hb2
      rcases ho with ⟨hno, rfl⟩ | ⟨hfo, hno, rfl⟩ | ⟨hfo, hgo, A4, c4, rfl, ho4⟩
      · have hst := Frm.scan_stop (f := f) (p := (pos : Int)) (fun h => hno h.1)
        rw [hst.1, List.append_nil] at HS
        rw [hst.2] at HU
        clear hst
        go_wp2_with fail
        simp only [Exit.jump]
        go_ret2
        exact ⟨he1.trans hb2, A', m, c', rows, by rw [← HU.out]; rfl, hi.ext hb2, HS.out⟩
      · have hst := Frm.scan_stop (f := f) (p := (pos : Int)) (fun h => hno h.2)
        rw [hst.1, List.append_nil] at HS
        rw [hst.2] at HU
        clear hst
        go_wp2_with fail
        simp only [Exit.jump]
        go_ret2
        exact ⟨he1.trans hb2, A', m, c', rows, by rw [← HU.out]; rfl, hi.ext hb2, HS.out⟩
      · have hrl := ho4.rd (fun x hx => hr1.wf x (List.mem_of_mem_drop (List.mem_of_mem_take hx)))
        have hnn := Frm.nOf_nonneg ys hU1.out
        obtain ⟨N, hN⟩ : ∃ N : Nat, nOf ys = N := ⟨(nOf ys).toNat, by omega⟩
        have hNl : N ≤ n - pos - 12 := by have := hfo.2.2.2; have := hfo.1; rw [HL1.out] at *; omega
        have hN12 : 12 ≤ n - pos := by have := hfo.1; rw [HL1.out] at this; exact this
        have hsg := Frm.scan_go (f := f) (p := (pos : Int)) ⟨hfo, hgo⟩ HF.out
        rw [hN, Int.toNat_natCast] at ho4 hrl hsg ⊢
        have HSG := Lib.hid hsg
        clear hsg hnn hfo hgo hN
        have hi2 := hi.ext he2
        have he02 := he1.trans he2
        go_wp2_with (at_builtin; refine wpList_moreE w _ rfl _ _ _ rfl 321 _ 3 40 Try.underlying317 info_item rfl (by decide) (by decide) _ _ _ rfl hi2.own he02 [.int .i64 pos, .int .u16 (kOf ys), .slice A4 N c4] rfl (by simp [Value.oneCell']) rfl ?c1 ?_)
        case c1 => omega
        intro A5 c5 w5 ho5 he5 hg5
        have hi5 := hi2.more ⟨pos, kOf ys, A4, N, c4, loadOf ys⟩ (by decide) hrl (fun e' hn => Apt.own ho4 hn) ho4.cap (fun _ _ _ => trivial) ho5 hg5
        have HI5 := Lib.hid hi5
        clear hi5 ho5 hg5 hi2 hrl ho4
        go_wp2_with fail
        go_step3
        rw [show ((pos : Int) + (12 + (N : Int))) = ((pos + (12 + N) : Nat) : Int) by omega]
        refine ⟨rfl, ⟨pos + (12 + N), m + 1, A5, c5, _, _, _, _, _, _, _, _, _, _, _, _, _, _, _, _, _, _, _, _, _, _, _, _, _, _, _, _, rfl, by omega, by omega, Lib.hid ⟨he5, ?_⟩⟩, ?_⟩
        · obtain ⟨g, _, h1, h2, h3⟩ := HSG.out
          refine ⟨g, rows ++ [⟨pos, kOf ys, A4, N, c4, loadOf ys⟩], HI5.out, ?_, ?_, ?_⟩
          · rw [← HS.out, h1, ← List.drop_drop, HYS.out, show ((pos + (12 + N) : Nat) : Int) = pos + 12 + N by omega]
            simp [Row.it]
          · rw [← HU.out, h2, ← List.drop_drop, HYS.out, show ((pos + (12 + N) : Nat) : Int) = pos + 12 + N by omega]
          · rw [← List.drop_drop, HYS.out]
            exact h3
        · simp [intOf]
          omega
  · intro pass
    go_wp2
    go_step3
    repeat (first | exact pass _ _ ⟨0, 0, none, 0, _, _, _, _, _, _, _, _, _, _, _, _, _, _, _, _, _, _, _, _, _, _, _, _, _, _, _, _, rfl, Nat.zero_le _, Nat.le_refl _, Lib.hid ⟨Ext.refl _, n, [], ⟨rfl, Own.nil _ _ _ _, (fun _ h => by cases h), (fun _ h => by cases h), (fun _ h => by cases h)⟩, by simp, by simp, by simp [HL.out]⟩⟩ | go_step)
theorem Items.same {Z : Nat → Prop} {w0 w : World} {e : TypeId} {A : Option Addr} {m c : Nat} {rows : List Row} {l : List (Int × Int × List Int)} (h : Items Z w0 w e A m c rows) (hl : rows.map Row.it = l) : m = l.length := by
  rw [← hl, List.length_map, h.len]
theorem scan_at (A : Option Addr) (n c : Nat) (xs : List Int) (w : World) (hr : Rd w .u8 A n xs) (hc : n ≤ c) (h0 : A = none → c = 0) (hn : n ≤ 1099511627776) :
    Calls Try.prog 211 #[.slice A n c] w fun e w' => Ext w w' ∧ ∃ A' c' rows, e = .returned (.tuple #[.slice A' (scan n 0 xs).length c', .int .i64 (used n 0 xs)]) ∧ Items (fun _ => True) w w' 321 A' (scan n 0 xs).length c' rows ∧ rows.map Row.it = scan n 0 xs :=
  (scan_calls A n c xs w hr hc h0 hn).mono fun _ _ ⟨h1, A', m, c', rows, h2, h3, h4⟩ => by
    have := h3.same h4
    subst this
    exact ⟨h1, A', c', rows, h2, h3, h4⟩
end Go.Proofs.Ytipmkddcdnbihaa.Scan
namespace Go.Proofs.Ytipmkddcdnbihaa.DiaryRec
open Go.RowKit Base Step Vec
open Scan (Row Items)
open DiaryP (okAt recs outs records frame)

theorem info_b : (Try.prog.info? 55).map (fun i => (i.zero, i.size, i.bytes)) = some (some (.slice none 0 0), 1, 24) := by kernel_rfl
/-- Rows of bytes in blocks of S. -/
def Rows2 (w : World) (S : Nat → Prop) (A : Option Addr) (n c : Nat) (xs : List (List Int)) : Prop := ∃ vs, Own w S 55 1 (.slice A n c) n vs ∧ Each (Bytes 5 w S) vs xs
theorem Rows2.ext {w w' : World} {S : Nat → Prop} {A : Option Addr} {n c : Nat} {xs : List (List Int)} (h : Rows2 w S A n c xs) (he : Ext w w') : Rows2 w' S A n c xs := by
  obtain ⟨vs, h1, h2⟩ := h
  exact ⟨vs, h1.extNew he, h2.imp fun _ _ k => k.ext he⟩
theorem Rows2.mono {w : World} {S S' : Nat → Prop} {A : Option Addr} {n c : Nat} {xs : List (List Int)} (h : Rows2 w S A n c xs) (hS : ∀ i, i < w.heap.size → S i → S' i) : Rows2 w S' A n c xs := by
  obtain ⟨vs, h1, h2⟩ := h
  exact ⟨vs, h1.mono hS, h2.imp fun _ _ k => k.mono hS⟩
theorem Rows2.len {w : World} {S : Nat → Prop} {A : Option Addr} {n c : Nat} {xs : List (List Int)} (h : Rows2 w S A n c xs) : xs.length = n := by
  obtain ⟨vs, h1, h2⟩ := h
  have := h1.row.1
  have := h2.len
  omega
theorem dec_t {p : Prop} [Decidable p] (h : p) : Value.bool true = Value.bool (decide p) := by rw [decide_eq_true h]
theorem dec_f {p : Prop} [Decidable p] (h : ¬ p) : Value.bool false = Value.bool (decide p) := by rw [decide_eq_false h]
/-- A frame's three cells. -/
theorem item_at {Z : Nat → Prop} {w0 w : World} {e : TypeId} {A : Option Addr} {n c : Nat} {rows : List Row} (h : Items Z w0 w e A n c rows) {k : Nat} {r : Row} (hr : rows[k]? = some r) : ∃ ad, A = some ad ∧ w.cell? (ad.add (k * 3)) = some (.int .i64 r.p) ∧
    w.cell? ⟨(ad.add (k * 3)).block, (ad.add (k * 3)).off + 1, none⟩ = some (.int .u16 r.k) ∧ w.cell? ⟨(ad.add (k * 3)).block, (ad.add (k * 3)).off + 2, none⟩ = some (.slice r.A r.n r.c) := by
  have g := fun j => get_flat Row.cells 3 (fun _ => rfl) rows k j r hr
  obtain ⟨ad, hA, k0⟩ := own_cell h.own (j := k * 3 + 0) (u := .int .i64 r.p) (by rw [g 0 (by omega)]; rfl)
  obtain ⟨ad1, hA1, k1⟩ := own_cell h.own (j := k * 3 + 1) (u := .int .u16 r.k) (by rw [g 1 (by omega)]; rfl)
  obtain ⟨ad2, hA2, k2⟩ := own_cell h.own (j := k * 3 + 2) (u := .slice r.A r.n r.c) (by rw [g 2 (by omega)]; rfl)
  rw [hA] at hA1 hA2
  cases hA1
  cases hA2
  rw [Nat.add_zero] at k0
  rw [← add_of_add] at k1 k2
  exact ⟨ad, hA, k0, k1, k2⟩
set_option maxRecDepth 100000 in
theorem rest_calls (g : Nat) (xs : List Int) (torn : Bool) (w : World) (hr : Pack.Reader w g xs torn) (hx : xs.length ≤ 1099511627776) :
    Calls Try.prog 178 #[.pointer (some ⟨g, 0, none⟩)] w fun e w' => ∃ A c, e = .returned (.slice A xs.length c) ∧ New w w' 5 1 A xs.length c (nums .u8 xs) ∧ Chg (fun i => i = g) w w' := by
  have HR := Lib.hid hr
  clear hr
  go_enter Try.func178, Try.ntmps178
  go_wp2_with fail
  refine (Pack.left_calls g xs torn _ HR.out).mono ?_
  rintro e w' ⟨rfl, rfl⟩
  go_wp2_with fail
  refine (Pack.rraw_yes g xs torn xs.length _ HR.out (by omega) (Int.le_refl _) hx).mono ?_
  rintro e w1 ⟨A, c, rfl, ho, _, hc⟩
  rw [Int.toNat_natCast] at *
  rw [List.take_length] at ho
  go_wp2_with fail
  go_ret
  exact ⟨A, c, rfl, ho, hc⟩
set_option maxRecDepth 100000 in
set_option maxHeartbeats 1000000 in
theorem frame_calls (num : Int) (B : Option Addr) (m d : Nat) (ys : List Int) (w : World) (hr : Rd w .u8 B m ys) (hm : m ≤ 60000) (h0 : 0 ≤ num) (h1 : num < 18446744073709551616) :
    Calls Try.prog 167 #[.int .u64 num, .slice B m d] w fun e w' => ∃ A' c', e = .returned (.slice A' (20 + m) c') ∧ New w w' 5 1 A' (20 + m) c' (nums .u8 (frame num ys)) ∧ Ext w w' := by
  obtain rfl := hr.len
  have hS : ∀ i, (w.alloc (.cells #[.slice none 0 0] 190)).heap.size ≤ i → w.heap.size ≤ i := fun i hi => by simp at hi; omega
  go_enter Try.func167, Try.ntmps167
  go_wp2_with fail
  refine (Pack.num_calls (fun i => w.heap.size ≤ i) w.heap.size [] num 8 _ hS (Pack.writer_new _ _ (Nat.le_refl _)) (by omega) (by omega) h0 h1 (by simp)).mono ?_
  rintro e w1 ⟨rfl, hw1, hc1⟩
  have hx1 := ((Ext.refl w).alloc (.cells #[.slice none 0 0] 190)).chg hc1 (fun _ h => h)
  have hl : (([] : List Int) ++ Le.le (8 : Int).toNat num) = Le.le 8 num := rfl
  rw [hl] at hw1
  have hll : (Le.le 8 num).length = 8 := Le.le_length _ _
  clear hc1 hl
  go_wp2_with fail
  refine (Pack.wraw_calls (fun i => w.heap.size ≤ i) w.heap.size _ B _ d ys _ (fun i hi => Nat.le_trans hx1.size hi) hw1 (hr.ext hx1) (by omega) (by omega)).mono ?_
  rintro e w2 ⟨rfl, hw2, hc2⟩
  have hx2 := hx1.chg hc2 (fun _ h => h)
  clear hw1 hc2
  go_wp2_with fail
  refine (Pack.bytes_calls _ _ _ _ hw2 (by simp [hll]; omega)).mono ?_
  rintro e w3 ⟨A3, c3, rfl, ho3, hb3⟩
  have hx3 := hx2.trans hb3
  have hln : (Le.le 8 num ++ ys).length = 8 + ys.length := by simp [hll]
  rw [hln] at ho3
  have hr3 := ho3.rd hw2.wf
  clear hw2 hb3 ho3
  go_wp2_with fail
  refine (SealFrame.frame_calls 2 A3 (8 + ys.length) c3 (Le.le 8 num ++ ys) _ (by omega) (by omega) (by rw [← hln]; rw [hln]; exact hr3) (by omega)).mono ?_
  rintro e w4 ⟨A4, c4, rfl, ho4, hb4⟩
  go_wp2_with fail
  go_ret
  refine ⟨A4, c4, by rw [show 12 + (8 + ys.length) = 20 + ys.length by omega]; rfl, ?_, hx3.trans hb4⟩
  rw [show 12 + (8 + ys.length) = 20 + ys.length by omega] at ho4
  exact ho4.mono fun i _ hi => Nat.le_trans hx3.size hi
set_option maxRecDepth 100000 in
set_option maxHeartbeats 4000000 in
theorem records_calls (A : Option Addr) (n c : Nat) (xs : List Int) (w : World) (hr : Rd w .u8 A n xs) (hc : n ≤ c) (h0 : A = none → c = 0) (hn : n ≤ 1099511627776) :
    Calls Try.prog 152 #[.slice A n c] w fun e w' => Ext w w' ∧ ∃ A' m c', e = .returned (.tuple #[.slice A' m c', .int .i64 (records xs).2]) ∧ Rows2 w' (fun i => w.heap.size ≤ i) A' m c' (records xs).1 := by
  have HL := Lib.hid hr.len
  have HU : Hid (Le.U8s xs) := Lib.hid fun x hx => wf_u8 (hr.wf x hx)
  go_enter Try.func152, Try.ntmps152
  go_wp2_with fail
  refine (Scan.scan_at A n c xs _ hr hc h0 hn).mono ?_
  rintro e w1 ⟨he1, A1, c1, rows, rfl, hi1, hrows⟩
  have HREC : Hid (records xs = recs (Frm.scan n 0 xs) 0 (Frm.used n 0 xs)) := Lib.hid (by unfold records; rw [HL.out])
  have hln := DiaryP.scan_count n 0 xs
  have HLE := Lib.hid (DiaryP.scan_len n 0 xs)
  generalize Frm.scan n 0 xs = l at *
  generalize Frm.used n 0 xs = u at *
  have hsz1 := he1.size
  have HR := Lib.hid hrows
  have HX1 := Lib.hid he1
  clear hrows hr hc h0 he1
  go_wp2_with fail
  go_loopw [4, 18] (fun o i wr => ∃ (k : Nat) (A' : Option Addr) (c' : Nat), o = .slice A' k c' ∧ i = .int .i64 k ∧ k ≤ l.length ∧ Ext w1 wr ∧ Rows2 wr (fun i => w1.heap.size ≤ i) A' k c' (outs (l.take k)) ∧ recs l 0 u = (outs (l.take k) ++ (recs (l.drop k) k u).1, (recs (l.drop k) k u).2)) (fun _ i _ => l.length - (intOf i).toNat)
  case atStart => exact ⟨0, none, 0, rfl, rfl, Nat.zero_le _, Ext.refl _, ⟨[], Own.nil _ _ _ _, Each.nil _⟩, by simp [outs]⟩
  case round =>
    obtain ⟨k, A', c', rfl, rfl, hk, hx, hrows, hrec⟩ := hrel
    have HRE := Lib.hid hrec
    clear hrec
    by_cases hlt : k < l.length
    · obtain ⟨r, hrk⟩ : ∃ r, rows[k]? = some r := ⟨_, List.getElem?_eq_getElem (by have := congrArg List.length HR.out; simp at this; omega)⟩
      have HIT : Hid (l[k]? = some r.it) := Lib.hid (by rw [← HR.out, List.getElem?_map, hrk]; rfl)
      have hi := hi1.ext hx
      obtain ⟨ad, rfl, k0, k1, k2⟩ := item_at hi hrk
      have hrm := List.mem_of_getElem? hrk
      have hrd := (hi.rd r hrm).1
      have hcap := hi.cap r hrm
      clear hrk hrm
      obtain ⟨p, kd, B, m, d, ys⟩ := r
      dsimp only at hrd hcap k0 k1 k2
      obtain rfl := hrd.len
      have hE4 := Ext.new wr (.cells #[.int .i64 p, .int .u16 kd, .slice B ys.length d] 321)
      have hyl : ys.length ≤ 1099511627776 := by
        have := HLE.out _ (List.mem_of_getElem? HIT.out)
        have h2 : ys.length ≤ xs.length := this
        rw [HL.out] at h2
        omega
      have hw := hrd.wf
      go_wp2_with fail
      refine (Pack.read_calls B ys.length d ys _ (hrd.ext hE4) hcap.1 hcap.2).mono ?_
      rintro e w5 ⟨rfl, hr5, hb5⟩
      have z0 := blk_cell (at_new wr (.cells #[.int .i64 p, .int .u16 kd, .slice B ys.length d] 321)) hb5 (i := 0) rfl
      have z1 := blk_cell (at_new wr (.cells #[.int .i64 p, .int .u16 kd, .slice B ys.length d] 321)) hb5 (i := 1) rfl
      have hsz5 := hb5.size
      have hE5 := hE4.trans hb5
      have hG : (wr.alloc (.cells #[.int .i64 p, .int .u16 kd, .slice B ys.length d] 321)).heap.size = wr.heap.size + 1 := by simp
      rw [hG] at hr5 hsz5 ⊢
      clear hb5 hE4 hrd hG
      go_wp2_with fail
      refine (Pack.rnum_calls _ ys false 8 _ hr5 (by omega) (by omega) hyl).mono ?_
      rintro e w6 ⟨rfl, hr6, hc6⟩
      have h8 : (8 : Int).toNat = 8 := rfl
      rw [h8] at hr6 ⊢
      have y0 := hc6.cell z0 (by simp)
      have y1 := hc6.cell z1 (by simp)
      have hX6 : Ext wr w6 := hE5.chg hc6 (fun i hi => by rw [hi]; omega)
      have hsz6 := hc6.size
      have hu8 : Le.U8s ys := fun x hx => wf_u8 (hw x hx)
      clear hr5 hc6 z0 z1 h8 hE5
      have HOK : Hid (okAt k (p, kd, ys) ↔ (kd = 2 ∧ 8 ≤ ys.length ∧ ys.length ≤ 60008 ∧ Le.of (ys.take 8) = (k : Int) + 1)) := Lib.hid Iff.rfl
      go_upto_region 8 with fail
      go_cut [10, 18, 46] from 18 to 55 (fun _ i t wx => i = .int .i64 k ∧ t = .bool (decide (¬ okAt k (p, kd, ys))) ∧ w6 = wx)
      case first =>
        have c1 : IntKind.u64.wrap (k : Int) = k := wrap_u64 (by omega) (by omega)
        have c2 : IntKind.u64.wrap ((k : Int) + 1) = k + 1 := wrap_u64 (by omega) (by omega)
        by_cases a1 : kd = 2
        · by_cases a2 : 8 ≤ ys.length
          · have e1 : Pack.rt 8 ys false = false := if_pos a2
            have e2 : Pack.rx 8 ys = ys.drop 8 := if_pos a2
            have e3 : Pack.rn 8 ys = Le.of (ys.take 8) := if_pos a2
            rw [e1, e2] at hr6
            rw [e3]
            clear e1 e2 e3
            obtain ⟨N, hN⟩ : ∃ N, Le.of (ys.take 8) = N := ⟨_, rfl⟩
            rw [hN]
            have HN := Lib.hid hN
            clear hN
            subst a1
            by_cases a3 : N = (k : Int) + 1
            · have hb3 : (N != (k : Int) + 1) = false := by rw [a3]; simp
              have HA3 := Lib.hid a3
              clear a3
              go_wp2_with fail
              refine (Pack.torn_calls _ _ _ _ hr6).mono ?_
              rintro e w' ⟨rfl, rfl⟩
              go_wp2_with fail
              refine (Pack.left_calls _ _ _ _ hr6).mono ?_
              rintro e w' ⟨rfl, rfl⟩
              have hdl : ((ys.drop 8).length : Int) = ys.length - 8 := by rw [List.length_drop]; omega
              rw [hdl]
              go_wp2_with fail
              go_meet
              refine ⟨rfl, congrArg Value.bool (decide_eq_decide.2 ⟨fun h h2 => ?_, fun h => ?_⟩), rfl⟩
              · have h4 : ys.length ≤ 60008 := by first | exact (HOK.out.1 h2).2.2.1 | exact (HOK.out.1 h2).2.1
                omega
              · rcases Int.lt_or_le 60000 ((ys.length : Int) - 8) with h4 | h4
                · exact h4
                · exact absurd (HOK.out.2 ⟨by simp, a2, by omega, HN.out.trans HA3.out⟩) h
            · have hb3 : (N != (k : Int) + 1) = true := by rw [bne_iff_ne]; exact a3
              have HA3 := Lib.hid a3
              clear a3
              go_wp2_with fail
              refine (Pack.torn_calls _ _ _ _ hr6).mono ?_
              rintro e w' ⟨rfl, rfl⟩
              go_wp2_with fail
              go_meet
              exact ⟨rfl, dec_t fun h => HA3.out (HN.out.symm.trans (HOK.out.1 h).2.2.2), rfl⟩
          · have e1 : Pack.rt 8 ys false = true := if_neg a2
            rw [e1] at hr6
            have HA2 := Lib.hid a2
            clear e1 a2
            subst a1
            go_wp2_with fail
            refine (Pack.torn_calls _ _ _ _ hr6).mono ?_
            rintro e w' ⟨rfl, rfl⟩
            go_wp2_with fail
            go_meet
            exact ⟨rfl, dec_t fun h => HA2.out (HOK.out.1 h).2.1, rfl⟩
        · have hb1 : (kd != 2) = true := by rw [bne_iff_ne]; exact a1
          have HA1 := Lib.hid a1
          clear a1
          go_wp2_with fail
          go_meet
          exact ⟨rfl, dec_t fun h => HA1.out (HOK.out.1 h).1, rfl⟩
      case rest =>
        obtain ⟨rfl, rfl, rfl⟩ := hcut
        by_cases hok : okAt k (p, kd, ys)
        · have hb : decide (¬ okAt k (p, kd, ys)) = false := decide_eq_false fun h => h hok
          have h8 := (HOK.out.1 hok).2.1
          have e2 : Pack.rx 8 ys = ys.drop 8 := if_pos h8
          rw [e2] at hr6
          rw [hb]
          have HS : Hid (recs l 0 u = (outs (l.take (k + 1)) ++ (recs (l.drop (k + 1)) (k + 1) u).1, (recs (l.drop (k + 1)) (k + 1) u).2)) := Lib.hid (by
            rw [HRE.out, DiaryP.recs_go HIT.out hok, DiaryP.outs_next HIT.out, List.append_assoc]; rfl)
          have HO : Hid (outs (l.take (k + 1)) = outs (l.take k) ++ [ys.drop 8]) := Lib.hid (DiaryP.outs_next HIT.out)
          have hX6' := hx.trans hX6
          clear hok hb e2 HOK hi
          go_wp2_with fail
          refine (rest_calls _ _ _ _ hr6 (by rw [List.length_drop]; omega)).mono ?_
          rintro e w7 ⟨A7, c7, rfl, ho7, hc7⟩
          have hsz7 := hc7.size
          have hX7 : Ext wr w7 := hX6.chg hc7 (fun i hi => by rw [hi]; omega)
          have hE8 := hX7.trans (Ext.new w7 (.cells #[.slice A7 (ys.drop 8).length c7] 55))
          obtain ⟨vs, ho, hrep⟩ := hrows
          have hwf7 : ∀ x ∈ ys.drop 8, (Lit.int .u8 x).wf = true := fun x hx => hw x (List.mem_of_mem_drop hx)
          have hb7 := (Bytes.new ho7 hwf7).ext (Ext.new w7 (.cells #[.slice A7 (ys.drop 8).length c7] 55))
          have hvs : ∀ (j : Nat) v, [Value.slice A7 (ys.drop 8).length c7][j]? = some v → (w7.alloc (.cells #[.slice A7 (ys.drop 8).length c7] 55)).cell? ⟨w7.heap.size, j, none⟩ = some v := fun j v hv => blk_cell (at_new w7 _) (Ext.refl _) (by simpa using hv)
          have hown := ho.extNew hE8
          have hsx := hx.size
          have hsz8 := hE8.size
          generalize (ys.drop 8).length = q at *
          clear hr6 hc7 ho7 y0 y1
          go_wp2_with (at_builtin; refine wpList_appE _ rfl _ _ _ rfl (fun i => w1.heap.size ≤ i) 55 _ 1 24 Try.underlying132 info_b rfl (by decide) (by decide) (.slice A' k c') k vs rfl hown w7.heap.size 1 [.slice A7 q c7] rfl rfl hvs (by simp [Value.oneCell']) ?c2 (fun i hi => by omega) ?_)
          case c2 => omega
          intro A9 c9 w9 ho9 hc9
          have hsz9 := hc9.size
          have hX9 : Ext w1 w9 := (hx.trans hE8).chg hc9 fun i hi => ho.foot i hi
          have hrows9 : Rows2 w9 (fun i => w1.heap.size ≤ i) A9 (k + 1) c9 (outs (l.take (k + 1))) := by
            rw [HO.out]
            exact ⟨_, ho9, (hrep.imp fun _ _ b => (b.ext hE8).kind hc9 (own_kinds hown (by decide))).snoc (((hb7.kind hc9 (own_kinds hown (by decide)))).mono fun i _ hi => by omega)⟩
          clear ho hrep hb7 hvs hown ho9 hc9 hE8 hx hX6 hX6' hX7
          go_wp2_with fail
          go_roundw
          case rel => exact ⟨k + 1, _, _, rfl, by go_num, by omega, hX9, hrows9, HS.out⟩
          case measure => simp [intOf]; omega
        · have hb : decide (¬ okAt k (p, kd, ys)) = true := decide_eq_true hok
          rw [hb]
          have HE : Hid (records xs = (outs (l.take k), p)) := Lib.hid (by
            rw [HREC.out, HRE.out, DiaryP.recs_stop HIT.out hok, List.append_nil]; rfl)
          have d0 : ∀ W, Ext w6.drew W → W.cell? ⟨wr.heap.size, 0, none⟩ = some (.int .i64 p) := fun W hW => (drew_ext hW).cell_ y0
          have HX := Lib.hid (HX1.out.trans (hx.trans hX6))
          have hrows6 := hrows.ext hX6
          clear hok hb HOK hX6 hx hi hi1 hrows hr6
          go_wp2_with fail
          refine Lex.wp_region_ext [] (by kernel_rfl) (by kernel_rfl) (by repeat (first | exact Lex.st_nil | refine Lex.st_cons (by first | exact Lex.nums_st | exact Lex.const_st | exact Lex.such_st | exact Lex.row_st | exact Lex.rowE_st | exact Lex.litR_st | assumption) ?_)) ?_
          repeat (first | (refine Lex.lex_skip (by rfl) ?_; simp only [Act.put, List.setIfInBounds_toArray, List.set_cons_zero, List.set_cons_succ]) | (refine Lex.lex_still (by rfl) (by rfl) ?_; apply Exists.intro; refine ⟨fun W hW => ?_, ?_⟩; (have hE := hW.1; have hE2 := Base.Ext.trans (Base.Ext.drew (Base.Ext.refl _)) hW.1; clear hW; go_simp; try with_reducible rfl); simp only [Act.put, List.setIfInBounds_toArray, List.set_cons_zero, List.set_cons_succ]))
          refine Lex.lex_nil (fun W hW => ?_)
          have hX9 := drew_ext hW.1
          clear hW d0
          go_wp2_with fail
          go_ret2
          rw [HE.out]
          exact ⟨HX.out.trans hX9, A', k, c', rfl, (hrows6.ext hX9).mono fun i _ hi => Nat.le_trans hsz1 hi⟩
    · obtain rfl : k = l.length := by omega
      rw [List.take_length] at hrows
      have HE : Hid (records xs = (outs l, u)) := Lib.hid (by
        rw [HREC.out, HRE.out, DiaryP.recs_end, List.take_length, List.append_nil])
      have HX := Lib.hid (HX1.out.trans hx)
      clear hx hi1
      go_wp2_with fail
      go_ret2
      rw [HE.out]
      exact ⟨HX.out, A', l.length, c', rfl, hrows.mono fun i _ hi => Nat.le_trans hsz1 hi⟩
end Go.Proofs.Ytipmkddcdnbihaa.DiaryRec
namespace Go.Proofs.Ytipmkddcdnbihaa.Tape
open Go.RowKit Base Step
open TapeP (kept crash turn)

structure TapeIs (w : World) (S : Nat → Prop) (g : Nat) (A : Option Addr) (n c : Nat) (xs : List Int) (safe : Nat) (most : Int) : Prop where
  at_ : w.heap[g]? = some (.cells #[.slice A n c, .int .i64 safe, .int .i64 most] 181 (0, 0))
  own : Own w S 5 1 (.slice A n c) n (nums .u8 xs)
  foot : S g
  wf : ∀ x ∈ xs, (Lit.int .u8 x).wf = true
  lt : ∀ i, S i → i < w.heap.size
  safe : safe ≤ n
  most : (n : Int) ≤ most ∧ most ≤ 9223372036854775807
/-- A tape at block g, all of it in blocks of S: its bytes, how many are safe, and for how many there is room. -/
def Tape (w : World) (S : Nat → Prop) (g : Nat) (xs : List Int) (safe : Nat) (most : Int) : Prop := ∃ A n c, TapeIs w S g A n c xs safe most
theorem TapeIs.len {w : World} {S : Nat → Prop} {g : Nat} {A : Option Addr} {n c : Nat} {xs : List Int} {safe : Nat} {most : Int} (h : TapeIs w S g A n c xs safe most) : xs.length = n := by
  have := h.own.row.1
  simpa [nums] using this
theorem TapeIs.ext {w w' : World} {S : Nat → Prop} {g : Nat} {A : Option Addr} {n c : Nat} {xs : List Int} {safe : Nat} {most : Int} (h : TapeIs w S g A n c xs safe most) (he : Ext w w') : TapeIs w' S g A n c xs safe most :=
  ⟨he.at_ h.at_, h.own.extNew he, h.foot, h.wf, fun i hi => he.lt (h.lt i hi), h.safe, h.most⟩
theorem TapeIs.cells {w : World} {S : Nat → Prop} {g : Nat} {A : Option Addr} {n c : Nat} {xs : List Int} {safe : Nat} {most : Int} (h : TapeIs w S g A n c xs safe most) :
    (∀ W, Ext w W → W.cell? ⟨g, 0, none⟩ = some (.slice A n c)) ∧ (∀ W, Ext w W → W.cell? ⟨g, 1, none⟩ = some (.int .i64 safe)) ∧ (∀ W, Ext w W → W.cell? ⟨g, 2, none⟩ = some (.int .i64 most)) :=
  ⟨fun _ he => blk_cell h.at_ he rfl, fun _ he => blk_cell h.at_ he rfl, fun _ he => blk_cell h.at_ he rfl⟩
theorem Tape.ext {w w' : World} {S : Nat → Prop} {g : Nat} {xs : List Int} {safe : Nat} {most : Int} (h : Tape w S g xs safe most) (he : Ext w w') : Tape w' S g xs safe most := by
  obtain ⟨A, n, c, h⟩ := h
  exact ⟨A, n, c, he.at_ h.at_, h.own.extNew he, h.foot, h.wf, fun i hi => he.lt (h.lt i hi), h.safe, h.most⟩
theorem Tape.chg {w w' : World} {S S2 : Nat → Prop} {g : Nat} {xs : List Int} {safe : Nat} {most : Int} (h : Tape w S g xs safe most) (hc : Chg S2 w w') (hd : ∀ i, S i → ¬ S2 i) : Tape w' S g xs safe most := by
  obtain ⟨A, n, c, h⟩ := h
  exact ⟨A, n, c, hc.at_ h.at_ (hd _ h.foot), h.own.chg hc hd, h.foot, h.wf, fun i hi => Nat.lt_of_lt_of_le (h.lt i hi) hc.size, h.safe, h.most⟩
theorem Tape.lt {w : World} {S : Nat → Prop} {g : Nat} {xs : List Int} {safe : Nat} {most : Int} (h : Tape w S g xs safe most) : ∀ i, S i → i < w.heap.size := by
  obtain ⟨A, n, c, h⟩ := h
  exact h.lt
theorem Tape.wf {w : World} {S : Nat → Prop} {g : Nat} {xs : List Int} {safe : Nat} {most : Int} (h : Tape w S g xs safe most) : ∀ x ∈ xs, (Lit.int .u8 x).wf = true := by
  obtain ⟨A, n, c, h⟩ := h
  exact h.wf
theorem Tape.safe_le {w : World} {S : Nat → Prop} {g : Nat} {xs : List Int} {safe : Nat} {most : Int} (h : Tape w S g xs safe most) : safe ≤ xs.length := by
  obtain ⟨A, n, c, h⟩ := h
  rw [h.len]
  exact h.safe

set_option maxRecDepth 100000 in
theorem new_calls (most : Int) (w : World) (hm : (Lit.int .i64 most).wf = true) :
    Calls Try.prog 38 #[.int .i64 most] w fun e w' => e = .returned (.pointer (some ⟨w.heap.size, 0, none⟩)) ∧ Ext w w' ∧ Tape w' (fun i => i = w.heap.size) w.heap.size [] 0 (max most 0) := by
  obtain ⟨h0, h1⟩ := wf_i64 hm
  go_enter Try.func38, Try.ntmps38
  go_wp2_with fail
  all_goals
    go_ret
    first | rw [show max most 0 = 0 by omega] | rw [show max most 0 = most by omega]
    exact ⟨rfl, Ext.new _ _, none, 0, 0, at_new _ _, Own.nil _ _ _ _, rfl, by simp, by intro i hi; subst hi; simp, Nat.le_refl _, by omega, by omega⟩

set_option maxRecDepth 100000 in
set_option maxHeartbeats 400000 in
theorem read_calls (S : Nat → Prop) (g : Nat) (xs : List Int) (safe : Nat) (most : Int) (w : World) (h : Tape w S g xs safe most) (hx : xs.length ≤ 1099511627776) :
    Calls Try.prog 153 #[.pointer (some ⟨g, 0, none⟩)] w fun e w' => Ext w w' ∧ ∃ A' c', e = .returned (.slice A' xs.length c') ∧ New w w' 5 1 A' xs.length c' (nums .u8 xs) := by
  obtain ⟨A, n, c, h⟩ := h
  obtain rfl := h.len
  have c0 := blk_cell (i := 0) h.at_ (Ext.refl w) rfl
  go_enter Try.func153, Try.ntmps153
  go_wp2_with fail
  refine (clone8 A xs.length c xs _ (h.own.rd h.wf) (by omega)).mono ?_
  rintro e w1 ⟨he1, A1, c1, rfl, ho1⟩
  go_wp2_with fail
  go_ret
  exact ⟨he1, A1, c1, rfl, ho1⟩

theorem TapeIs.put {w : World} {S' : Nat → Prop} {g : Nat} {A A' : Option Addr} {n c n' c' : Nat} {safe : Nat} {most : Int} {xs : List Int} (hb : w.heap[g]? = some (.cells #[.slice A n c, .int .i64 safe, .int .i64 most] 181 (0, 0)))
    (ho : Own w S' 5 1 (.slice A' n' c') n' (nums .u8 xs)) (hS : S' g) (hlt : ∀ i, S' i → i < w.heap.size) (hw : ∀ x ∈ xs, (Lit.int .u8 x).wf = true) (hs : safe ≤ n') (hm : (n' : Int) ≤ most ∧ most ≤ 9223372036854775807) :
    TapeIs (w.setCell ⟨g, 0, none⟩ (.slice A' n' c')) S' g A' n' c' xs safe most :=
  ⟨set_blk hb _, ho.keep fun i hi => Below.heap_setCell _ _ _ _ fun e => ho.ne hb (by decide) (by rw [hi, e]), hS, hw, fun i hi => by simpa using hlt i hi, hs, hm⟩
theorem TapeIs.sync {w : World} {S : Nat → Prop} {g : Nat} {A : Option Addr} {n c : Nat} {safe safe' : Nat} {most : Int} {xs : List Int} (h : TapeIs w S g A n c xs safe most) (hs : safe' ≤ n) :
    TapeIs (w.setCell ⟨g, 1, none⟩ (.int .i64 safe')) S g A n c xs safe' most :=
  ⟨set_blk h.at_ _, h.own.keep fun i hi => Below.heap_setCell _ _ _ _ fun e => h.own.ne h.at_ (by decide) (by rw [hi, e]), h.foot, h.wf, fun i hi => by simpa using h.lt i hi, hs, h.most⟩

set_option maxRecDepth 100000 in
set_option maxHeartbeats 400000 in
theorem sync_calls (S : Nat → Prop) (g : Nat) (xs : List Int) (safe : Nat) (most : Int) (w : World) (h : Tape w S g xs safe most) :
    Calls Try.prog 168 #[.pointer (some ⟨g, 0, none⟩)] w fun e w' => e = .returned (.int .i64 0) ∧ Tape w' S g xs xs.length most ∧ Step S S w w' := by
  obtain ⟨A, n, c, h⟩ := h
  obtain rfl := h.len
  have c0 := blk_cell (i := 0) h.at_ (Ext.refl w) rfl
  have c1 := blk_cell (i := 1) h.at_ (Ext.refl w) rfl
  have f1 := blk_free h.at_ (Ext.refl w) 1
  go_enter Try.func168, Try.ntmps168
  go_wp2_with fail
  go_ret
  exact ⟨rfl, ⟨A, _, c, h.sync (Nat.le_refl _)⟩, (Chg.refl _ _).setCell (p := ⟨g, 1, none⟩) h.foot _, fun _ h => .inl h⟩

set_option maxRecDepth 100000 in
set_option maxHeartbeats 400000 in
theorem append_calls (S : Nat → Prop) (g : Nat) (xs : List Int) (safe : Nat) (most : Int) (B : Option Addr) (m d : Nat) (ys : List Int) (w : World) (h : Tape w S g xs safe most) (hr : Rd w .u8 B m ys) (hx : xs.length ≤ 1099511627776) (hm : m ≤ 1099511627776) (hfit : (xs.length : Int) + m ≤ most) :
    Calls Try.prog 166 #[.pointer (some ⟨g, 0, none⟩), .slice B m d] w fun e w' => e = .returned (.int .i64 0) ∧ ∃ S', Tape w' S' g (xs ++ ys) safe most ∧ Step S S' w w' := by
  obtain ⟨A, n, c, h⟩ := h
  obtain rfl := h.len
  have hm0 := h.most.1
  have hm1 := h.most.2
  have d0 : ∀ W, Ext w.drew W → W.cell? ⟨g, 0, none⟩ = some (.slice A xs.length c) := fun W hW => blk_cell h.at_ (drew_ext hW) rfl
  have d2 : ∀ W, Ext w.drew W → W.cell? ⟨g, 2, none⟩ = some (.int .i64 most) := fun W hW => blk_cell h.at_ (drew_ext hW) rfl
  have w1 : IntKind.i64.wrap (most - (xs.length : Int)) = most - xs.length := IntWalk.i64_in _ (by omega)
  go_enter Try.func166, Try.ntmps166
  go_wp2_with fail
  refine Lex.wp_region_ext [] (by kernel_rfl) (by kernel_rfl) (by repeat (first | exact Lex.st_nil | refine Lex.st_cons (by first | exact Lex.nums_st | exact Lex.const_st | exact Lex.such_st | exact Lex.row_st | exact Lex.rowE_st | exact Lex.litR_st | assumption) ?_)) ?_
  repeat (first | (refine Lex.lex_skip (by rfl) ?_; simp only [Act.put, List.setIfInBounds_toArray, List.set_cons_zero, List.set_cons_succ]) | (refine Lex.lex_still (by rfl) (by rfl) ?_; apply Exists.intro; refine ⟨fun W hW => ?_, ?_⟩; (have hE := hW.1; have hE2 := Base.Ext.trans (Base.Ext.drew (Base.Ext.refl _)) hW.1; clear hW; go_simp; try with_reducible rfl); simp only [Act.put, List.setIfInBounds_toArray, List.set_cons_zero, List.set_cons_succ]))
  refine Lex.lex_nil (fun W hW => ?_)
  have hE := drew_ext hW.1
  have c0 := d0 W hW.1
  clear hW d0 d2 w1
  have hat := hE.at_ h.at_
  have hown := h.own.extNew hE
  go_wp2_with (at_builtin; refine wpList_app _ rfl _ _ _ rfl (fun i => S i ∨ W.heap.size ≤ i) 5 .u8 1 Try.underlying55 Pack.info_u8 (by decide) (.slice A xs.length c) _ xs rfl (hown.mono fun i _ hi => .inl hi) B m d ys rfl (hr.ext hE) ?c2 (fun i hi => .inr hi) ?_)
  case c2 => omega
  intro A2 c2 w2 ho2 hc2
  have hat2 := hc2.at_ hat (hown.ne hat (by decide))
  have hcell2 := blk_cell (i := 0) hat2 (Ext.refl w2) rfl
  have hf2 := Pack.free_of hat2 0
  have hlt2 := with_lt (S := S) ho2 (fun i hi => hE.lt (h.lt i hi)) hc2.size
  have hgr2 := with_grow ho2
  have hwf := wf_append h.wf hr.wf
  have hct : Chg S w w2 := (Below.chg hE).step hc2 fun i _ hi => hown.foot i hi
  clear hc2 hown c0
  go_wp2_with fail
  go_ret
  exact ⟨rfl, _, ⟨A2, _, c2, TapeIs.put hat2 (with_own ho2) (.inl h.foot) hlt2 hwf (by have := h.safe; omega) ⟨by omega, hm1⟩⟩, hct.setCell (p := ⟨g, 0, none⟩) h.foot _, fun i hi => (hgr2 i hi).imp id fun h2 => Nat.le_trans hE.size h2⟩

set_option maxRecDepth 100000 in
set_option maxHeartbeats 400000 in
theorem append_full (S : Nat → Prop) (g : Nat) (xs : List Int) (safe : Nat) (most : Int) (B : Option Addr) (m d : Nat) (w : World) (h : Tape w S g xs safe most) (hm : m ≤ 1099511627776) (hfit : most < (xs.length : Int) + m) :
    Calls Try.prog 166 #[.pointer (some ⟨g, 0, none⟩), .slice B m d] w fun e w' => e = .returned (.int .i64 20) ∧ Ext w w' := by
  obtain ⟨A, n, c, h⟩ := h
  obtain rfl := h.len
  have hm0 := h.most.1
  have hm1 := h.most.2
  have d0 : ∀ W, Ext w.drew W → W.cell? ⟨g, 0, none⟩ = some (.slice A xs.length c) := fun W hW => blk_cell h.at_ (drew_ext hW) rfl
  have d2 : ∀ W, Ext w.drew W → W.cell? ⟨g, 2, none⟩ = some (.int .i64 most) := fun W hW => blk_cell h.at_ (drew_ext hW) rfl
  have w1 : IntKind.i64.wrap (most - (xs.length : Int)) = most - xs.length := IntWalk.i64_in _ (by omega)
  go_enter Try.func166, Try.ntmps166
  go_wp2_with fail
  refine Lex.wp_region_ext [] (by kernel_rfl) (by kernel_rfl) (by repeat (first | exact Lex.st_nil | refine Lex.st_cons (by first | exact Lex.nums_st | exact Lex.const_st | exact Lex.such_st | exact Lex.row_st | exact Lex.rowE_st | exact Lex.litR_st | assumption) ?_)) ?_
  repeat (first | (refine Lex.lex_skip (by rfl) ?_; simp only [Act.put, List.setIfInBounds_toArray, List.set_cons_zero, List.set_cons_succ]) | (refine Lex.lex_still (by rfl) (by rfl) ?_; apply Exists.intro; refine ⟨fun W hW => ?_, ?_⟩; (have hE := hW.1; have hE2 := Base.Ext.trans (Base.Ext.drew (Base.Ext.refl _)) hW.1; clear hW; go_simp; try with_reducible rfl); simp only [Act.put, List.setIfInBounds_toArray, List.set_cons_zero, List.set_cons_succ]))
  refine Lex.lex_nil (fun W hW => ?_)
  have hE := drew_ext hW.1
  clear hW d0 d2 w1
  go_wp2_with fail
  go_ret
  exact ⟨rfl, hE⟩

/-- A new row, and behind it a new count of safe bytes. -/
theorem TapeIs.put' {w : World} {S' : Nat → Prop} {g : Nat} {A A' : Option Addr} {n c n' c' : Nat} {safe : Nat} {most : Int} {xs : List Int} (hb : w.heap[g]? = some (.cells #[.slice A n c, .int .i64 safe, .int .i64 most] 181 (0, 0)))
    (ho : Own w S' 5 1 (.slice A' n' c') n' (nums .u8 xs)) (hS : S' g) (hlt : ∀ i, S' i → i < w.heap.size) (hw : ∀ x ∈ xs, (Lit.int .u8 x).wf = true) (safe' : Nat) (hs : safe' ≤ n') (hm : (n' : Int) ≤ most ∧ most ≤ 9223372036854775807) :
    ((w.setCell ⟨g, 0, none⟩ (.slice A' n' c')).cell? ⟨g, 0, none⟩ = some (.slice A' n' c') ∧ (w.setCell ⟨g, 0, none⟩ (.slice A' n' c')).cell? ⟨g, 1, none⟩ = some (.int .i64 safe) ∧ (w.setCell ⟨g, 0, none⟩ (.slice A' n' c')).frozen? ⟨g, 1, none⟩ = false) ∧
    TapeIs ((w.setCell ⟨g, 0, none⟩ (.slice A' n' c')).setCell ⟨g, 1, none⟩ (.int .i64 safe')) S' g A' n' c' xs safe' most := by
  have h1 := set_blk (i := 0) hb (.slice A' n' c')
  have h2 := set_blk (i := 1) h1 (.int .i64 safe')
  refine ⟨⟨blk_cell h1 (Ext.refl _) rfl, blk_cell h1 (Ext.refl _) rfl, blk_free h1 (Ext.refl _) 1⟩, h2, ?_, hS, hw, fun i hi => by simpa using hlt i hi, hs, hm⟩
  have ho1 := ho.keep (w' := w.setCell ⟨g, 0, none⟩ (.slice A' n' c')) fun i hi => Below.heap_setCell _ _ _ _ fun e => ho.ne hb (by decide) (by rw [hi, e])
  exact ho1.keep fun i hi => Below.heap_setCell _ _ _ _ fun e => ho1.ne h1 (by decide) (by rw [hi, e])

set_option maxRecDepth 100000 in
set_option maxHeartbeats 400000 in
theorem cut_calls (S : Nat → Prop) (g : Nat) (xs : List Int) (safe : Nat) (most : Int) (n : Nat) (w : World) (h : Tape w S g xs safe most) (hn : n ≤ xs.length) (hx : xs.length ≤ 1099511627776) :
    Calls Try.prog 154 #[.pointer (some ⟨g, 0, none⟩), .int .i64 n] w fun e w' => e = .returned (.int .i64 0) ∧ ∃ S', Tape w' S' g (xs.take n) n most ∧ Step S S' w w' := by
  obtain ⟨A, n', c, h⟩ := h
  obtain rfl := h.len
  have hcap := h.own.cap.1
  have hm0 := h.most.1
  have hm1 := h.most.2
  have c0 := h.cells.1 _ (Ext.refl w)
  go_enter Try.func154, Try.ntmps154
  go_wp2_with fail
  refine (clone8 A n c (xs.take n) _ (rd_take (h.own.rd h.wf) hn) (by omega)).mono ?_
  rintro e w1 ⟨he1, A1, c1, rfl, ho1⟩
  have h1 := h.ext he1
  have hc1 := h1.cells.1 _ (Ext.refl _)
  have hf1 := blk_free h1.at_ (Ext.refl _) 0
  have hlt1 := with_lt (S := S) ho1 h.lt he1.size
  have hgr1 := with_new (S := S) ho1
  have hp := TapeIs.put' h1.at_ (with_own ho1) (.inl h.foot) hlt1 (fun x hx => h.wf x (List.mem_of_mem_take hx)) n (Nat.le_refl _) ⟨by omega, hm1⟩
  have hput2 := hp.2
  have hc2 := hp.1.2.1
  have hf2 := hp.1.2.2
  clear hp
  go_wp2_with fail
  go_ret
  exact ⟨rfl, _, ⟨A1, n, c1, hput2⟩, Chg.setCell (Chg.setCell (Below.chg he1) (p := ⟨g, 0, none⟩) h.foot _) (p := ⟨g, 1, none⟩) h.foot _, hgr1⟩

set_option maxRecDepth 100000 in
set_option maxHeartbeats 400000 in
theorem crash_calls (S : Nat → Prop) (g : Nat) (xs : List Int) (safe : Nat) (most : Int) (keep bits : Int) (w : World) (ht : Tape w S g xs safe most) (hk : (Lit.int .i64 keep).wf = true) (hb : (Lit.int .u8 bits).wf = true) (hx : xs.length ≤ 1099511627776) :
    Calls Try.prog 49 #[.pointer (some ⟨g, 0, none⟩), .int .i64 keep, .int .u8 bits] w fun e w' => e = .returned (.int .i64 ((xs.length - safe : Nat) - kept keep (xs.length - safe))) ∧ ∃ S', Tape w' S' g (crash xs safe keep bits) (safe + kept keep (xs.length - safe)) most ∧ Step S S' w w' := by
  obtain ⟨A, n', c, ht⟩ := ht
  obtain rfl := ht.len
  have hs := ht.safe
  have hcap := ht.own.cap.1
  have hm0 := ht.most.1
  have hm1 := ht.most.2
  obtain ⟨hk0, hk1⟩ := wf_i64 hk
  obtain ⟨hb0, hb1⟩ := wf_u8 hb
  obtain ⟨d0, d1, _⟩ := ht.cells
  have w1 : IntKind.i64.wrap ((xs.length : Int) - safe) = xs.length - safe := IntWalk.i64_in _ (by omega)
  have hK : (if (xs.length : Int) - safe < if keep < 0 then 0 else keep then (xs.length : Int) - safe else if keep < 0 then 0 else keep) = ((kept keep (xs.length - safe) : Nat) : Int) := by
    unfold kept
    split <;> split at * <;> omega
  have hKl := TapeP.kept_le keep (xs.length - safe)
  have HC : Hid (crash xs safe keep bits = if 0 < kept keep (xs.length - safe) then turn (xs.take (safe + kept keep (xs.length - safe))) bits else xs.take (safe + kept keep (xs.length - safe))) := Lib.hid rfl
  have HK := Lib.hid hK
  clear hk hb hK
  generalize hN : kept keep (xs.length - safe) = N at *
  clear hN
  generalize hM : safe + N = M at *
  have hM1 : M ≤ safe + N := by omega
  have hM2 : safe + N ≤ M := by omega
  clear hM
  have w2 : IntKind.i64.wrap ((xs.length : Int) - safe - N) = xs.length - safe - N := IntWalk.i64_in _ (by omega)
  have w3 : IntKind.i64.wrap ((safe : Int) + N) = M := by rw [IntWalk.i64_in _ (by omega)]; omega
  go_enter Try.func49, Try.ntmps49
  go_wp2_with fail
  refine Lex.wp_region_ext [] (by kernel_rfl) (by kernel_rfl) (by repeat (first | exact Lex.st_nil | refine Lex.st_cons (by first | exact Lex.nums_st | exact Lex.const_st | exact Lex.such_st | exact Lex.row_st | exact Lex.rowE_st | exact Lex.litR_st | assumption) ?_)) ?_
  repeat (first | (refine Lex.lex_skip (by rfl) ?_; simp only [Act.put, List.setIfInBounds_toArray, List.set_cons_zero, List.set_cons_succ]) | (refine Lex.lex_still (by rfl) (by rfl) ?_; apply Exists.intro; refine ⟨fun W hW => ?_, ?_⟩; (have hE := hW.1; have hE2 := Base.Ext.trans (Base.Ext.drew (Base.Ext.refl _)) hW.1; clear hW; go_simp; try with_reducible rfl); simp only [Act.put, List.setIfInBounds_toArray, List.set_cons_zero, List.set_cons_succ]))
  rw [HK.out]
  generalize (if keep < 0 then (0 : Int) else keep) = q
  refine Lex.lex_nil (fun W hW => ?_)
  have hE := drew_ext hW.1
  replace ht := ht.ext hE
  obtain ⟨d0, d1, _⟩ := ht.cells
  clear hW
  go_wp2_with fail
  refine Lex.wp_region_ext [] (by kernel_rfl) (by kernel_rfl) (by repeat (first | exact Lex.st_nil | refine Lex.st_cons (by first | exact Lex.nums_st | exact Lex.const_st | exact Lex.such_st | exact Lex.row_st | exact Lex.rowE_st | exact Lex.litR_st | assumption) ?_)) ?_
  repeat (first | (refine Lex.lex_skip (by rfl) ?_; simp only [Act.put, List.setIfInBounds_toArray, List.set_cons_zero, List.set_cons_succ]) | (refine Lex.lex_still (by rfl) (by rfl) ?_; apply Exists.intro; refine ⟨fun W hW => ?_, ?_⟩; (have hE := hW.1; have hE2 := Base.Ext.trans (Base.Ext.drew (Base.Ext.refl _)) hW.1; clear hW; go_simp; try with_reducible rfl); simp only [Act.put, List.setIfInBounds_toArray, List.set_cons_zero, List.set_cons_succ]))
  refine Lex.lex_nil (fun W hW => ?_)
  have hE2 := hE.trans (drew_ext hW.1)
  replace ht := ht.ext (drew_ext hW.1)
  obtain ⟨d0, d1, _⟩ := ht.cells
  clear hW
  have i0 : (0 : Int) ≤ (M : Int) := by omega
  have i1 : (M : Int) ≤ xs.length := by omega
  have i2 : (M : Int) ≤ c := by omega
  have i3 : (xs.length : Int) ≤ c := by omega
  go_wp2_with fail
  refine Lex.wp_region_tail 15 [(12, .row w 5 .u8 M (xs.take M))] (by kernel_rfl) (by kernel_rfl) (by repeat (first | exact Lex.st_nil | refine Lex.st_cons (by first | exact Lex.nums_st | exact Lex.const_st | exact Lex.such_st | exact Lex.row_st | exact Lex.rowE_st | exact Lex.litR_st | assumption) ?_)) ?_; simp only [List.take_succ_cons, List.take_zero, List.drop_succ_cons, List.drop_zero]
  repeat (first | (refine Lex.lexT_skip (by rfl) ?_; simp only [Act.put, List.setIfInBounds_toArray, List.set_cons_zero, List.set_cons_succ]) | (refine Lex.lexT_still (by rfl) (by rfl) ?_; apply Exists.intro; refine ⟨fun W hW => ?_, ?_⟩; (have hE := hW.1; have hE2 := Base.Ext.trans (Base.Ext.drew (Base.Ext.refl _)) hW.1; clear hW; go_simp; try with_reducible rfl); simp only [Act.put, List.setIfInBounds_toArray, List.set_cons_zero, List.set_cons_succ]))
  refine Lex.lexT_loose (by rfl) (by rfl) (fun W hW => ?_) ?_
  · go_simp
    refine (clone8 A M c (xs.take M) _ (rd_take ((ht.ext (drew_ext hW.1)).own.rd ht.wf) (by omega)) (by omega)).mono ?_
    rintro e w5 ⟨he5, A5, c5, rfl, ho5⟩
    exact ⟨_, rfl, ⟨A5, c5, rfl, ho5.cap.1⟩, he5, Lex.row_mk (ho5.mono fun i _ hi => Nat.le_trans (hE2.trans (drew_ext hW.1)).size hi)⟩
  rintro v ⟨A5, c5, rfl, hcap5⟩
  simp only [Act.put, List.setIfInBounds_toArray, List.set_cons_zero, List.set_cons_succ]
  repeat (first | (refine Lex.lexT_skip (by rfl) ?_; simp only [Act.put, List.setIfInBounds_toArray, List.set_cons_zero, List.set_cons_succ]) | (refine Lex.lexT_still (by rfl) (by rfl) ?_; apply Exists.intro; refine ⟨fun W hW => ?_, ?_⟩; (have hE := hW.1; have hE2 := Base.Ext.trans (Base.Ext.drew (Base.Ext.refl _)) hW.1; clear hW; go_simp; try with_reducible rfl); simp only [Act.put, List.setIfInBounds_toArray, List.set_cons_zero, List.set_cons_succ]))
  refine Lex.lexT_nil (fun W hW => ?_)
  have ho5 := Lex.upd_here (hW.2 12) _ _ rfl
  have hE3 := hE2.trans (drew_ext hW.1)
  replace ht := ht.ext (drew_ext hW.1)
  have hlt5 := with_lt (S := S) ho5 ht.lt (Nat.le_refl _)
  have hgr5 := with_new (S := S) ho5
  have hq := ht.cells.1 _ (Ext.refl _)
  have hf := blk_free ht.at_ (Ext.refl _) 0
  have hlen5 : (xs.take M).length = M := by rw [List.length_take]; omega
  have hwf5 : ∀ x ∈ xs.take M, (Lit.int .u8 x).wf = true := fun x hx => ht.wf x (List.mem_of_mem_take hx)
  clear hW d0 d1 w1 w2 w3 hE hE2
  by_cases hN0 : 0 < N
  · rw [if_pos hN0] at HC
    have hp := TapeIs.put ht.at_ (with_own ho5) (.inl ht.foot) hlt5 hwf5 (show safe ≤ M by omega) ⟨by omega, hm1⟩
    have hr5 := hp.own.rd hwf5
    obtain ⟨ad, rfl, hcb⟩ := hr5.at_ (j := M - 1) (by omega)
    obtain ⟨hz0, hz1⟩ := wf_u8 (hr5.wfAt (j := M - 1) (by omega))
    have HG : Hid ((xs.take M).getD (M - 1) 0 = (xs.take M).getD ((xs.take M).length - 1) 0) := Lib.hid (by rw [hlen5])
    generalize (xs.take M).getD (M - 1) 0 = b at *
    obtain ⟨e0, e1, _⟩ := hp.cells
    have ecb : ∀ W', Ext (W.setCell ⟨g, 0, none⟩ (.slice (some ad) M c5)) W' → W'.cell? (ad.add (M - 1)) = some (.int .u8 b) := fun W' he => he.cell_ hcb
    have w4 : IntKind.i64.wrap ((M : Int) - 1) = M - 1 := IntWalk.i64_in _ (by omega)
    have j0 : (0 : Int) ≤ (M : Int) - 1 := by omega
    have j1 : (M : Int) - 1 < M := by omega
    have j2 : ((M : Int) - 1).toNat = M - 1 := by omega
    have j3 : (1 : Int) ≤ M := by omega
    clear hcb
    go_wp2_with fail
    refine Lex.wp_region_tail 15 [] (by kernel_rfl) (by kernel_rfl) (by repeat (first | exact Lex.st_nil | refine Lex.st_cons (by first | exact Lex.nums_st | exact Lex.const_st | exact Lex.such_st | exact Lex.row_st | exact Lex.rowE_st | exact Lex.litR_st | assumption) ?_)) ?_; simp only [List.take_succ_cons, List.take_zero, List.drop_succ_cons, List.drop_zero]
    repeat (first | (refine Lex.lexT_skip (by rfl) ?_; simp only [Act.put, List.setIfInBounds_toArray, List.set_cons_zero, List.set_cons_succ]) | (refine Lex.lexT_still (by rfl) (by rfl) ?_; apply Exists.intro; refine ⟨fun W hW => ?_, ?_⟩; (have hE := hW.1; have hE2 := Base.Ext.trans (Base.Ext.drew (Base.Ext.refl _)) hW.1; clear hW; go_simp; try with_reducible rfl); simp only [Act.put, List.setIfInBounds_toArray, List.set_cons_zero, List.set_cons_succ]))
    refine Lex.lexT_nil (fun W hW => ?_)
    have hE4 := drew_ext hW.1
    have hp1 := hp.ext hE4
    have hcb1 := ecb _ hE4
    have hfb1 := own_free hp1.own (M - 1)
    have hne : ad.block ≠ g := fun e => hp1.own.ne hp1.at_ (by decide) (by rw [← e]; rfl)
    have hts : (xs.take M).set (M - 1) (Go.bits .xor .u8 b bits) = turn (xs.take M) bits := by rw [turn, ← HG.out, hlen5]
    have ho6 := own_set hp1.own (j := M - 1) (by omega) (Go.bits .xor .u8 b bits)
    rw [hts] at ho6
    have hat6 : (W.setCell (ad.add (M - 1)) (.int .u8 (Go.bits .xor .u8 b bits))).heap[g]? = some (.cells #[.slice (some ad) M c5, .int .i64 safe, .int .i64 most] 181 (0, 0)) := by
      rw [Below.heap_setCell _ _ _ _ (by rw [block_add]; exact fun e => hne e.symm)]
      exact hp1.at_
    have hwf6 : ∀ x ∈ turn (xs.take M) bits, (Lit.int .u8 x).wf = true := fun x hx => by
      rcases List.mem_or_eq_of_mem_set hx with h1 | h1
      · exact hwf5 x h1
      · rw [h1]; have := TapeP.bits_u8 ((xs.take M).getD ((xs.take M).length - 1) 0) bits; exact u8_wf this.1 this.2
    have hp6 : TapeIs (W.setCell (ad.add (M - 1)) (.int .u8 (Go.bits .xor .u8 b bits))) (With S (.slice (some ad) M c5)) g (some ad) M c5 (turn (xs.take M) bits) safe most :=
      ⟨hat6, ho6, hp1.foot, hwf6, fun i hi => by simpa using hp1.lt i hi, hp1.safe, hp1.most⟩
    have hq6 := hp6.cells.1 _ (Ext.refl _)
    have hs6 := hp6.cells.2.1 _ (Ext.refl _)
    have hf6 := blk_free hp6.at_ (Ext.refl _) 1
    have hp7 := hp6.sync (safe' := M) (Nat.le_refl _)
    have hch : Chg (With S (.slice (some ad) M c5)) w W := (Chg.setCell (Below.chg hE3) (p := ⟨g, 0, none⟩) (.inl ht.foot) _).trans (Below.chg hE4)
    have hch7 := Chg.setCell (Chg.setCell hch (p := ad.add (M - 1)) (.inr (by rw [block_add]; rfl)) (.int .u8 (Go.bits .xor .u8 b bits))) (p := ⟨g, 1, none⟩) (.inl ht.foot) (.int .i64 M)
    clear hW ecb e0 e1 w4 j0 j1 j2 hts
    go_wp2_with fail
    go_ret
    rw [HC.out]
    exact ⟨ret_int (by omega), _, ⟨some ad, M, c5, hp7⟩, hch7.mono fun i hi h => (hgr5 i h).elim id fun h2 => by omega, hgr5⟩
  · rw [if_neg hN0] at HC
    obtain rfl : N = 0 := by omega
    have hp := TapeIs.put' ht.at_ (with_own ho5) (.inl ht.foot) hlt5 hwf5 M (Nat.le_refl _) ⟨by omega, hm1⟩
    have hput2 := hp.2
    have hc50 := hp.1.1
    have hc5 := hp.1.2.1
    have hf5 := hp.1.2.2
    clear hp
    go_wp2_with fail
    go_ret
    rw [HC.out]
    exact ⟨ret_int (by omega), _, ⟨A5, M, c5, hput2⟩, Chg.setCell (Chg.setCell (Below.chg hE3) (p := ⟨g, 0, none⟩) ht.foot _) (p := ⟨g, 1, none⟩) ht.foot _, hgr5⟩

set_option maxRecDepth 100000 in
set_option maxHeartbeats 400000 in
theorem cut_no (S : Nat → Prop) (g : Nat) (xs : List Int) (safe : Nat) (most : Int) (n : Int) (w : World) (h : Tape w S g xs safe most) (hn : n < 0 ∨ xs.length < n) :
    Calls Try.prog 154 #[.pointer (some ⟨g, 0, none⟩), .int .i64 n] w fun e w' => e = .returned (.int .i64 1) ∧ Ext w w' := by
  obtain ⟨A, n', c, h⟩ := h
  obtain rfl := h.len
  have c0 := h.cells.1 _ (Ext.refl w)
  rcases hn with hn | hn
  · go_enter Try.func154, Try.ntmps154
    go_wp2_with fail
    go_ret
    exact ⟨rfl, Ext.refl _⟩
  · have h0 : ¬ n < 0 := by omega
    go_enter Try.func154, Try.ntmps154
    go_wp2_with fail
    go_ret
    exact ⟨rfl, Ext.refl _⟩
set_option maxRecDepth 100000 in
theorem read_nil (w : World) : Calls Try.prog 153 #[.pointer none] w fun e w' => e = .returned (.slice none 0 0) ∧ w = w' := by
  go_enter Try.func153, Try.ntmps153
  go_wp2_with fail
  go_ret
  exact ⟨rfl, rfl⟩
set_option maxRecDepth 100000 in
theorem crash_nil (w : World) : Calls Try.prog 49 #[.pointer none, .int .i64 1, .int .u8 1] w fun e w' => e = .returned (.int .i64 0) ∧ w = w' := by
  go_enter Try.func49, Try.ntmps49
  go_wp2_with fail
  go_ret
  exact ⟨rfl, rfl⟩
set_option maxRecDepth 100000 in
theorem append_nil (w : World) : Calls Try.prog 166 #[.pointer none, .slice none 0 0] w fun e w' => e = .returned (.int .i64 3) ∧ w = w' := by
  go_enter Try.func166, Try.ntmps166
  go_wp2_with fail
  go_ret
  exact ⟨rfl, rfl⟩
set_option maxRecDepth 100000 in
theorem sync_nil (w : World) : Calls Try.prog 168 #[.pointer none] w fun e w' => e = .returned (.int .i64 3) ∧ w = w' := by
  go_enter Try.func168, Try.ntmps168
  go_wp2_with fail
  go_ret
  exact ⟨rfl, rfl⟩
set_option maxRecDepth 100000 in
theorem cut_nil (w : World) : Calls Try.prog 154 #[.pointer none, .int .i64 0] w fun e w' => e = .returned (.int .i64 3) ∧ w = w' := by
  go_enter Try.func154, Try.ntmps154
  go_wp2_with fail
  go_ret
  exact ⟨rfl, rfl⟩
end Go.Proofs.Ytipmkddcdnbihaa.Tape
namespace Go.Proofs.Ytipmkddcdnbihaa.Diary
open Go.RowKit Base Step Vec
open DiaryP (records frame)
open DiaryRec (Rows2 info_b)

structure DiaryIs (w : World) (S : Nat → Prop) (g gt : Nat) (A : Option Addr) (m c n : Nat) (xs : List (List Int)) : Prop where
  at_ : w.heap[g]? = some (.cells #[.pointer (some ⟨gt, 0, none⟩), .slice A m c, .int .i64 n] 266 (0, 0))
  rows : Rows2 w S A m c xs
  foot : S g
  lt : ∀ i, S i → i < w.heap.size
  n : n ≤ m
/-- A diary at block g over the tape at block gt, all of it (but the tape) in blocks of S: its records, and how many are safe. -/
def Diary (w : World) (S : Nat → Prop) (g gt : Nat) (xs : List (List Int)) (n : Nat) : Prop := ∃ A m c, DiaryIs w S g gt A m c n xs
theorem Rows2.chg {w w' : World} {S S2 : Nat → Prop} {A : Option Addr} {m c : Nat} {xs : List (List Int)} (h : Rows2 w S A m c xs) (hc : Chg S2 w w') (hd : ∀ i, S i → ¬ S2 i) : Rows2 w' S A m c xs := by
  obtain ⟨vs, h1, h2⟩ := h
  exact ⟨vs, h1.chg hc hd, h2.imp fun _ _ k => k.chg hc hd⟩
theorem Rows2.put {w : World} {S : Nat → Prop} {A : Option Addr} {m c : Nat} {xs : List (List Int)} (h : Rows2 w S A m c xs) {g i : Nat} {cs : Array Value} {f : Nat × Nat} (hb : w.heap[g]? = some (.cells cs 266 f)) (u : Value) : Rows2 (w.setCell ⟨g, i, none⟩ u) S A m c xs := by
  obtain ⟨vs, h1, h2⟩ := h
  exact ⟨vs, own_put h1 hb (by decide), h2.imp fun _ _ k => k.put hb (by decide) _⟩
theorem own_room {w : World} {S : Nat → Prop} {e : TypeId} {size n : Nat} {v : Value} {xs : List Value} (h : Own w S e size v n xs) : n ≤ 9223372036854775807 := by
  rcases h.row.2 with ⟨_, h1⟩ | ⟨g', cap', cur, he, _, _, h1, h2, _⟩
  · omega
  · simp only [maxLen] at h2
    omega
section
variable {w w' : World} {S S2 : Nat → Prop} {g gt : Nat} {A : Option Addr} {m c n : Nat} {xs : List (List Int)}
theorem DiaryIs.ext (h : DiaryIs w S g gt A m c n xs) (he : Ext w w') : DiaryIs w' S g gt A m c n xs := ⟨he.at_ h.at_, h.rows.ext he, h.foot, fun i hi => he.lt (h.lt i hi), h.n⟩
theorem DiaryIs.chg (h : DiaryIs w S g gt A m c n xs) (hc : Chg S2 w w') (hd : ∀ i, S i → ¬ S2 i) : DiaryIs w' S g gt A m c n xs := ⟨hc.at_ h.at_ (hd _ h.foot), Rows2.chg h.rows hc hd, h.foot, fun i hi => Nat.lt_of_lt_of_le (h.lt i hi) hc.size, h.n⟩
theorem Diary.ext (h : Diary w S g gt xs n) (he : Ext w w') : Diary w' S g gt xs n := by
  obtain ⟨A, m, c, h⟩ := h
  exact ⟨A, m, c, h.ext he⟩
theorem Diary.chg (h : Diary w S g gt xs n) (hc : Chg S2 w w') (hd : ∀ i, S i → ¬ S2 i) : Diary w' S g gt xs n := by
  obtain ⟨A, m, c, h⟩ := h
  exact ⟨A, m, c, h.chg hc hd⟩
theorem Diary.lt (h : Diary w S g gt xs n) : ∀ i, S i → i < w.heap.size := by
  obtain ⟨A, m, c, h⟩ := h
  exact h.lt
theorem Diary.n_le (h : Diary w S g gt xs n) : n ≤ xs.length := by
  obtain ⟨A, m, c, h⟩ := h
  rw [h.rows.len]
  exact h.n
theorem DiaryIs.flds (h : DiaryIs w S g gt A m c n xs) : (∀ W, Ext w W → W.cell? ⟨g, 0, none⟩ = some (.pointer (some ⟨gt, 0, none⟩))) ∧ (∀ W, Ext w W → W.cell? ⟨g, 1, none⟩ = some (.slice A m c)) ∧ (∀ W, Ext w W → W.cell? ⟨g, 2, none⟩ = some (.int .i64 n)) :=
  ⟨fun _ he => blk_cell h.at_ he rfl, fun _ he => blk_cell h.at_ he rfl, fun _ he => blk_cell h.at_ he rfl⟩
end
/-- A tape, and a diary over it. -/
structure Both (w : World) (St Sd : Nat → Prop) (gt g : Nat) (bs : List Int) (safe : Nat) (most : Int) (xs : List (List Int)) (n : Nat) : Prop where
  t : Tape.Tape w St gt bs safe most
  d : Diary w Sd g gt xs n
  sep : ∀ i, St i → ¬ Sd i
theorem Both.ext {w w' : World} {St Sd : Nat → Prop} {gt g : Nat} {bs : List Int} {safe : Nat} {most : Int} {xs : List (List Int)} {n : Nat} (h : Both w St Sd gt g bs safe most xs n) (he : Ext w w') : Both w' St Sd gt g bs safe most xs n := ⟨h.t.ext he, h.d.ext he, h.sep⟩
/-- What a call on both writes, and where both lie behind it. -/
def Or2 (S T : Nat → Prop) : Nat → Prop := fun i => S i ∨ T i

set_option maxRecDepth 100000 in
set_option maxHeartbeats 1000000 in
theorem open_calls (S : Nat → Prop) (gt : Nat) (bs : List Int) (safe : Nat) (most : Int) (w : World) (h : Tape.Tape w S gt bs safe most) (hx : bs.length ≤ 1099511627776) :
    Calls Try.prog 87 #[.pointer (some ⟨gt, 0, none⟩)] w fun e w' => ∃ (g : Nat) (S' Sd : Nat → Prop), e = .returned (.tuple #[.pointer (some ⟨g, 0, none⟩), .int .i64 0]) ∧ Both w' S' Sd gt g (bs.take (records bs).2.toNat) (records bs).2.toNat most (records bs).1 (records bs).1.length ∧ Chg S w w' ∧ (∀ i, S' i → S i ∨ w.heap.size ≤ i) ∧ (∀ i, Sd i → w.heap.size ≤ i) := by
  have hwf := h.wf
  have hru := DiaryP.records_used (xs := bs) fun x hx => wf_u8 (hwf x hx)
  obtain ⟨u, hu⟩ := Int.eq_ofNat_of_zero_le hru.1
  have HT := Lib.hid h
  have HL := Lib.hid h.lt
  go_enter Try.func87, Try.ntmps87
  go_wp2_with fail
  refine (Tape.read_calls S gt bs safe most _ h hx).mono ?_
  rintro e w1 ⟨he1, A1, c1, rfl, ho1⟩
  go_wp2_with fail
  refine (DiaryRec.records_calls A1 bs.length c1 bs _ (ho1.rd hwf) ho1.cap.1 ho1.cap.2 hx).mono ?_
  rintro e w2 ⟨he2, A2, m, c2, rfl, hr2⟩
  have he12 := he1.trans he2
  have hsz12 := he12.size
  have hsz1 := he1.size
  have hml := hr2.len
  have HU := Lib.hid hu
  have hul : u ≤ bs.length := by omega
  rw [hu]
  clear hu hru
  go_wp2_with fail
  refine (Tape.cut_calls S gt bs safe most u _ (h.ext he12) hul hx).mono ?_
  rintro e w3 ⟨rfl, S3, ht3, hst3⟩
  have hsz3 := hst3.size
  have hr3 : Rows2 w3 (fun i => w1.heap.size ≤ i ∧ i < w2.heap.size) A2 m c2 (records bs).1 := Rows2.chg (hr2.mono fun i hlt hi => ⟨hi, hlt⟩) hst3.chg fun i hi hS => by
    have := HL.out i hS
    omega
  have hlt3 := ht3.lt
  go_wp2_with fail
  go_ret2
  have hnew := Ext.new w3 (.cells #[.pointer (some ⟨gt, 0, none⟩), .slice A2 m c2, .int .i64 m] 266)
  have hln : (records bs).1.length = m := hml
  rw [HU.out, hln]
  refine ⟨w3.heap.size, S3, fun i => (w1.heap.size ≤ i ∧ i < w2.heap.size) ∨ i = w3.heap.size, rfl, ⟨ht3.ext hnew, ⟨A2, m, c2, at_new _ _, (hr3.ext hnew).mono fun i _ hi => .inl hi, .inr rfl, fun i hi => by simp; omega, Nat.le_refl _⟩, fun i hi hd => ?_⟩, (chg_ext (ext_chg he12 hst3.chg) hnew), fun i hi => (hst3.grow i hi).imp id fun h2 => by omega, fun i hi => by omega⟩
  have h1 := hlt3 i hi
  rcases hd with hd | hd
  · rcases hst3.grow i hi with h2 | h2
    · have := HL.out i h2
      omega
    · omega
  · omega
set_option maxRecDepth 100000 in
theorem len_calls (S : Nat → Prop) (g gt : Nat) (xs : List (List Int)) (n : Nat) (w : World) (h : Diary w S g gt xs n) :
    Calls Try.prog 88 #[.pointer (some ⟨g, 0, none⟩)] w fun e w' => e = .returned (.tuple #[.int .i64 xs.length, .int .i64 n]) ∧ Ext w w' := by
  obtain ⟨A, m, c, h⟩ := h
  obtain rfl := h.rows.len
  obtain ⟨_, d0, d1⟩ := h.flds
  replace d0 : ∀ W, Ext w.drew W → W.cell? ⟨g, 1, none⟩ = some (.slice A xs.length c) := fun W hW => d0 W (drew_ext hW)
  replace d1 : ∀ W, Ext w.drew W → W.cell? ⟨g, 2, none⟩ = some (.int .i64 n) := fun W hW => d1 W (drew_ext hW)
  go_enter Try.func88, Try.ntmps88
  go_wp2_with fail
  refine Lex.wp_region_ext [] (by kernel_rfl) (by kernel_rfl) (by repeat (first | exact Lex.st_nil | refine Lex.st_cons (by first | exact Lex.nums_st | exact Lex.const_st | exact Lex.such_st | exact Lex.row_st | exact Lex.rowE_st | exact Lex.litR_st | assumption) ?_)) ?_
  repeat (first | (refine Lex.lex_skip (by rfl) ?_; simp only [Act.put, List.setIfInBounds_toArray, List.set_cons_zero, List.set_cons_succ]) | (refine Lex.lex_still (by rfl) (by rfl) ?_; apply Exists.intro; refine ⟨fun W hW => ?_, ?_⟩; (have hE := hW.1; have hE2 := Base.Ext.trans (Base.Ext.drew (Base.Ext.refl _)) hW.1; clear hW; go_simp; try with_reducible rfl); simp only [Act.put, List.setIfInBounds_toArray, List.set_cons_zero, List.set_cons_succ]))
  refine Lex.lex_nil (fun W hW => ?_)
  have hE := drew_ext hW.1
  clear hW
  go_wp2_with fail
  go_ret2
  exact ⟨rfl, hE⟩
theorem or2_l {S T : Nat → Prop} {w w' : World} (h : Chg S w w') : Chg (Or2 S T) w w' := h.mono fun _ _ hi => .inl hi
theorem or2_r {S T : Nat → Prop} {w w' : World} (h : Chg T w w') : Chg (Or2 S T) w w' := h.mono fun _ _ hi => .inr hi
theorem Rows2.take {w : World} {S : Nat → Prop} {A : Option Addr} {m c : Nat} {xs : List (List Int)} (h : Rows2 w S A m c xs) {k : Nat} (hk : k ≤ m) : Rows2 w S A k c (xs.take k) := by
  obtain ⟨vs, h1, h2⟩ := h
  have := own_takeG h1 hk
  rw [Nat.mul_one] at this
  exact ⟨_, this, h2.take k⟩
set_option maxRecDepth 100000 in
set_option maxHeartbeats 1000000 in
theorem sync_calls (St Sd : Nat → Prop) (gt g : Nat) (bs : List Int) (safe : Nat) (most : Int) (xs : List (List Int)) (n : Nat) (w : World) (h : Both w St Sd gt g bs safe most xs n) :
    Calls Try.prog 95 #[.pointer (some ⟨g, 0, none⟩)] w fun e w' => e = .returned (.int .i64 0) ∧ Both w' St Sd gt g bs bs.length most xs xs.length ∧ Chg (Or2 St Sd) w w' := by
  obtain ⟨ht, ⟨A, m, c, hd⟩, hs⟩ := h
  obtain rfl := hd.rows.len
  obtain ⟨d0, d1, d2⟩ := hd.flds
  have q0 := d0 _ (Ext.refl w)
  have q1 := d1 _ (Ext.refl w)
  have q2 := d2 _ (Ext.refl w)
  have f2 := blk_free hd.at_ (Ext.refl w) 2
  have hd3 : DiaryIs (w.setCell ⟨g, 2, none⟩ (.int .i64 xs.length)) Sd g gt A xs.length c xs.length xs := ⟨set_blk hd.at_ _, Rows2.put hd.rows hd.at_ _, hd.foot, fun i hi => by simpa using hd.lt i hi, Nat.le_refl _⟩
  have hc3 : Chg Sd w (w.setCell ⟨g, 2, none⟩ (.int .i64 xs.length)) := Chg.setCell (Chg.refl _ _) (p := ⟨g, 2, none⟩) hd.foot _
  have ht3 := ht.chg hc3 hs
  have q3 := hd3.flds.1 _ (Ext.refl _)
  clear d0 d1 d2
  go_enter Try.func95, Try.ntmps95
  go_wp2_with fail
  refine (Tape.sync_calls St gt bs safe most _ ht3).mono ?_
  rintro e w4 ⟨rfl, ht4, hst4⟩
  have hd4 := hd3.chg hst4.chg fun i hi h2 => hs i h2 hi
  go_wp2_with fail
  go_ret
  exact ⟨rfl, ⟨ht4, ⟨A, _, c, hd4⟩, hs⟩, (or2_r hc3).trans (or2_l hst4.chg)⟩
theorem frame_wf {num : Int} {ys : List Int} (h : ∀ x ∈ ys, (Lit.int .u8 x).wf = true) : ∀ x ∈ frame num ys, (Lit.int .u8 x).wf = true := fun x hx => by
  have := Frm.frame_u8 2 (Le.le 8 num ++ ys) (fun y hy => (List.mem_append.1 hy).elim (Le.le_u8 8 num y) fun h2 => wf_u8 (h y h2)) x hx
  exact u8_wf this.1 this.2
set_option maxRecDepth 100000 in
set_option maxHeartbeats 2000000 in
theorem write_calls (St Sd : Nat → Prop) (gt g : Nat) (bs : List Int) (safe : Nat) (most : Int) (xs : List (List Int)) (n : Nat) (w : World) (h : Both w St Sd gt g bs safe most xs n) (B : Option Addr) (m d : Nat) (ys : List Int) (hr : Rd w .u8 B m ys) (hoff : Off St B m)
    (hm : m ≤ 60000) (hb : bs.length ≤ 1099511627776) (hx : xs.length ≤ 1099511627776) (hfit : (bs.length : Int) + (20 + m : Nat) ≤ most) :
    Calls Try.prog 93 #[.pointer (some ⟨g, 0, none⟩), .slice B m d] w fun e w' => e = .returned (.int .i64 0) ∧ ∃ St' Sd', Both w' St' Sd' gt g (bs ++ frame ((xs.length : Int) + 1) ys) safe most (xs ++ [ys]) n ∧ Step (Or2 St Sd) (Or2 St' Sd') w w' := by
  obtain ⟨ht, ⟨A, k, c, hd⟩, hs⟩ := h
  obtain rfl := hd.rows.len
  obtain rfl := hr.len
  obtain ⟨d0, d1, d2⟩ := hd.flds
  have q0 := d0 _ (Ext.refl w)
  replace d0 : ∀ W, Ext w.drew W → W.cell? ⟨g, 0, none⟩ = some (.pointer (some ⟨gt, 0, none⟩)) := fun W hW => d0 W (drew_ext hW)
  replace d1 : ∀ W, Ext w.drew W → W.cell? ⟨g, 1, none⟩ = some (.slice A xs.length c) := fun W hW => d1 W (drew_ext hW)
  have c1 : IntKind.u64.wrap (xs.length : Int) = xs.length := wrap_u64 (by omega) (by omega)
  have c2 : IntKind.u64.wrap ((xs.length : Int) + 1) = xs.length + 1 := wrap_u64 (by omega) (by omega)
  have HF := Lib.hid fun W (hr : Rd W .u8 B ys.length ys) => DiaryRec.frame_calls ((xs.length : Int) + 1) B ys.length d ys W hr hm (by omega) (by omega)
  have HW := Lib.hid (frame_wf (num := (xs.length : Int) + 1) hr.wf)
  have HFIT := Lib.hid hfit
  have HFL := Lib.hid (DiaryP.frame_length ((xs.length : Int) + 1) ys)
  clear d2 hfit
  go_enter Try.func93, Try.ntmps93
  go_wp2_with fail
  refine Lex.wp_region_tail 13 [(12, .row w 5 .u8 (20 + ys.length) (frame ((xs.length : Int) + 1) ys))] (by kernel_rfl) (by kernel_rfl) (by repeat (first | exact Lex.st_nil | refine Lex.st_cons (by first | exact Lex.nums_st | exact Lex.const_st | exact Lex.such_st | exact Lex.row_st | exact Lex.rowE_st | exact Lex.litR_st | assumption) ?_)) ?_; simp only [List.take_succ_cons, List.take_zero, List.drop_succ_cons, List.drop_zero]
  repeat (first | (refine Lex.lexT_skip (by rfl) ?_; simp only [Act.put, List.setIfInBounds_toArray, List.set_cons_zero, List.set_cons_succ]) | (refine Lex.lexT_still (by rfl) (by rfl) ?_; apply Exists.intro; refine ⟨fun W hW => ?_, ?_⟩; (have hE := hW.1; have hE2 := Base.Ext.trans (Base.Ext.drew (Base.Ext.refl _)) hW.1; clear hW; go_simp; try with_reducible rfl); simp only [Act.put, List.setIfInBounds_toArray, List.set_cons_zero, List.set_cons_succ]))
  refine Lex.lexT_loose (by rfl) (by rfl) (fun W hW => ?_) ?_
  · have hE := drew_ext hW.1
    go_simp
    refine (HF.out _ (hr.ext hE)).mono ?_
    rintro e w10 ⟨A10, c10, rfl, ho10, he10⟩
    exact ⟨_, rfl, ⟨A10, c10, rfl, ho10.cap.1⟩, he10, Lex.row_mk (ho10.mono fun i _ hi => Nat.le_trans hE.size hi)⟩
  rintro v ⟨A5, c5, rfl, -⟩
  simp only [Act.put, List.setIfInBounds_toArray, List.set_cons_zero, List.set_cons_succ]
  repeat (first | (refine Lex.lexT_skip (by rfl) ?_; simp only [Act.put, List.setIfInBounds_toArray, List.set_cons_zero, List.set_cons_succ]) | (refine Lex.lexT_still (by rfl) (by rfl) ?_; apply Exists.intro; refine ⟨fun W hW => ?_, ?_⟩; (have hE := hW.1; have hE2 := Base.Ext.trans (Base.Ext.drew (Base.Ext.refl _)) hW.1; clear hW; go_simp; try with_reducible rfl); simp only [Act.put, List.setIfInBounds_toArray, List.set_cons_zero, List.set_cons_succ]))
  refine Lex.lexT_nil (fun W hW => ?_)
  have hE := drew_ext hW.1
  have ho5 := Lex.upd_here (hW.2 12) _ _ rfl
  have hr5 := ho5.rd HW.out
  have hszE := hE.size
  obtain ⟨fr, hfr⟩ : ∃ fr, frame ((xs.length : Int) + 1) ys = fr := ⟨_, rfl⟩
  rw [hfr] at ho5 hr5
  have HFR := Lib.hid hfr
  clear hfr
  clear hW d0 d1 c1 c2 q0
  go_wp2_with fail
  refine (Tape.append_calls St gt bs safe most A5 (20 + ys.length) c5 fr _ (ht.ext hE) hr5 hb (by omega) HFIT.out).mono ?_
  rintro e w4 ⟨rfl, S4, ht4, hst4⟩
  have hd4 := (hd.ext hE).chg hst4.chg fun i hi h2 => hs i h2 hi
  have hr4 : Rd w4 .u8 B ys.length ys := (hr.ext hE).chg hst4.chg fun ad ha h0 => hoff h0 ad ha
  have hsz4 := hst4.size
  have hlt4 := ht4.lt
  have d1 : ∀ W, Ext w4.drew W → W.cell? ⟨g, 1, none⟩ = some (.slice A xs.length c) := fun W hW => hd4.flds.2.1 W (drew_ext hW)
  clear ho5 hr5 HF
  go_wp2_with fail
  refine Lex.wp_region_ord [0] [1, 2, 3, 4, 5, 6, 7] [8, 9, 10, 11] [(6, .row w4 5 .u8 ys.length ys), (7, .litR [] w4 5 .u8 ys.length ys [])] (by kernel_rfl) (by kernel_rfl) (by repeat (first | exact Lex.st_nil | refine Lex.st_cons (by first | exact Lex.nums_st | exact Lex.const_st | exact Lex.such_st | exact Lex.row_st | exact Lex.rowE_st | exact Lex.litR_st | exact Lex.blkL_st) ?_)) ?_; simp only [Lex.pick, List.getElem?_cons_succ, List.getElem?_cons_zero, List.map_cons, List.map_nil]; repeat (refine Lex.preL_cons (by rfl) ?_; apply Exists.intro; refine ⟨fun W => ?_, ?_⟩; (go_simp; try with_reducible rfl); simp only [Act.put, List.setIfInBounds_toArray, List.set_cons_zero, List.set_cons_succ]); refine Lex.preL_nil ?_
  repeat (first | (refine Lex.lexH_skip (by rfl) ?_; simp only [Act.put, List.setIfInBounds_toArray, List.set_cons_zero, List.set_cons_succ]) | (refine Lex.lexH_still (by rfl) (by rfl) ?_; apply Exists.intro; refine ⟨fun W hW => ?_, ?_⟩; (have hE := hW.1; have hE2 := Base.Ext.trans (Base.Ext.drew (Base.Ext.refl _)) hW.1; clear hW; go_simp; try with_reducible rfl); simp only [Act.put, List.setIfInBounds_toArray, List.set_cons_zero, List.set_cons_succ]))
  refine Lex.lexH_loose (by rfl) (by rfl) (fun W hW => ?_) ?_
  · have hE2 := drew_ext hW.1
    go_simp
    refine (clone8 B ys.length d ys _ (hr4.ext hE2) (by omega)).mono ?_
    rintro e w10 ⟨he10, A10, c10, rfl, ho10⟩
    exact ⟨_, rfl, ⟨A10, c10, rfl, ho10.cap.1⟩, he10, Lex.row_mk (ho10.mono fun i _ hi => Nat.le_trans hE2.size hi)⟩
  rintro v ⟨A6, c6, rfl, -⟩
  simp only [Act.put, List.setIfInBounds_toArray, List.set_cons_zero, List.set_cons_succ]
  repeat (first | (refine Lex.lexH_skip (by rfl) ?_; simp only [Act.put, List.setIfInBounds_toArray, List.set_cons_zero, List.set_cons_succ]) | (refine Lex.lexH_still (by rfl) (by rfl) ?_; apply Exists.intro; refine ⟨fun W hW => ?_, ?_⟩; (have hE := hW.1; have hE2 := Base.Ext.trans (Base.Ext.drew (Base.Ext.refl _)) hW.1; clear hW; go_simp; try with_reducible rfl); simp only [Act.put, List.setIfInBounds_toArray, List.set_cons_zero, List.set_cons_succ]))
  refine Lex.lexH_loose (by rfl) (by rfl) (fun W hW => ?_) ?_
  · go_simp
    exact ⟨⟨_, rfl⟩, Ext.new _ _, Lex.lit_mk (vs := [.slice A6 ys.length c6]) ⟨A6, c6, rfl, (Lex.upd_here (hW.2 6 (by kernel_rfl)) _ _ rfl).extNew (Ext.new _ _)⟩⟩
  rintro v ⟨g6, rfl⟩
  simp only [Act.put, List.setIfInBounds_toArray, List.set_cons_zero, List.set_cons_succ]
  repeat (first | (refine Lex.lexH_skip (by rfl) ?_; simp only [Act.put, List.setIfInBounds_toArray, List.set_cons_zero, List.set_cons_succ]) | (refine Lex.lexH_still (by rfl) (by rfl) ?_; apply Exists.intro; refine ⟨fun W hW => ?_, ?_⟩; (have hE := hW.1; have hE2 := Base.Ext.trans (Base.Ext.drew (Base.Ext.refl _)) hW.1; clear hW; go_simp; try with_reducible rfl); simp only [Act.put, List.setIfInBounds_toArray, List.set_cons_zero, List.set_cons_succ]))
  refine Lex.lexH_nil (fun W hW => ?_)
  have hE6 := drew_ext hW.1
  obtain ⟨vs, ⟨A7, c7, rfl, ho7⟩, hvs⟩ := Lex.upd_here (hW.2 7) _ rfl
  have hd6 := hd4.ext hE6
  have hsz6 := hE6.size
  obtain ⟨ws, how, hrep⟩ := hd6.rows
  clear hW d1
  go_wp2_with (at_builtin; refine wpList_appE _ rfl _ _ _ rfl (fun i => Sd i ∨ w4.heap.size ≤ i) 55 _ 1 24 Try.underlying132 info_b rfl (by decide) (by decide) (.slice A xs.length c) _ ws rfl (how.mono fun i _ hi => .inl hi) g6 1 [.slice A7 ys.length c7] rfl rfl hvs (by simp [Value.oneCell']) ?c2 (fun i hi => .inr (Nat.le_trans hsz6 hi)) ?_)
  case c2 => omega
  intro A9 c9 w9 ho9 hc9
  have hsz9 := hc9.size
  have hat9 := hc9.at_ hd6.at_ (how.ne hd6.at_ (by decide))
  have hb7 : Bytes 5 w9 (Plus Sd w4 w9) (.slice A7 ys.length c7) ys := ((Bytes.new ho7 hr.wf).kind hc9 (own_kinds how (by decide))).mono fun i hlt hi => .inr ⟨hi, hlt⟩
  have hrows9 : Rows2 w9 (Plus Sd w4 w9) A9 (xs.length + 1) c9 (xs ++ [ys]) :=
    ⟨_, ho9.mono fun i hlt hi => hi.imp id fun h => ⟨h, hlt⟩, (hrep.imp fun _ _ b => (b.kind hc9 (own_kinds how (by decide))).mono fun i _ => .inl).snoc hb7⟩
  have hn := hd6.n
  have hd9 : DiaryIs (w9.setCell ⟨g, 1, none⟩ (.slice A9 (xs.length + 1) c9)) (Plus Sd w4 w9) g gt A9 (xs.length + 1) c9 n (xs ++ [ys]) :=
    ⟨set_blk hat9 _, Rows2.put hrows9 hat9 _, .inl hd.foot, fun i hi => by simpa using Plus.lt hd4.lt (by omega) i hi, by omega⟩
  have hq9 := blk_cell (i := 1) hat9 (Ext.refl _) rfl
  have hf9 := blk_free hat9 (Ext.refl _) 1
  have hsep4 : ∀ i, Sd i → ¬ S4 i := fun i hi h4 => (hst4.grow i h4).elim (fun h5 => hs i h5 hi) fun h5 => by have := hd.lt i hi; omega
  have hc9' : Chg Sd w4 (w9.setCell ⟨g, 1, none⟩ (.slice A9 (xs.length + 1) c9)) := (ext_chg hE6 (hc9.mono fun i _ hi => how.foot i hi)).setCell (p := ⟨g, 1, none⟩) hd.foot _
  have ht9 := ht4.chg hc9' fun i hi h2 => hsep4 i h2 hi
  have hsep9 : ∀ i, S4 i → ¬ Plus Sd w4 w9 i := fun i hi hp => hp.elim (fun h2 => hsep4 i h2 hi) fun h2 => by have := hlt4 i hi; omega
  have hch : Chg (Or2 St Sd) w (w9.setCell ⟨g, 1, none⟩ (.slice A9 (xs.length + 1) c9)) := (ext_chg hE (or2_l hst4.chg)).trans (or2_r hc9')
  have hgr : ∀ i, Or2 S4 (Plus Sd w4 w9) i → Or2 St Sd i ∨ w.heap.size ≤ i := fun i hi => by
    rcases hi with hi | hi | hi
    · exact (hst4.grow i hi).imp .inl fun h => by omega
    · exact .inl (.inr hi)
    · exact .inr (by omega)
  clear ho9 hc9 hrep how ho7 hvs hb7 hrows9 hd6 hd4 hst4
  go_wp2_with fail
  simp only [Lex.onlyN]
  go_wp2_with fail
  go_ret
  exact ⟨rfl, S4, _, ⟨by rw [HFR.out]; exact ht9, ⟨_, _, _, hd9⟩, hsep9⟩, hch, hgr⟩
set_option maxRecDepth 100000 in
set_option maxHeartbeats 2000000 in
theorem write_full (St Sd : Nat → Prop) (gt g : Nat) (bs : List Int) (safe : Nat) (most : Int) (xs : List (List Int)) (n : Nat) (w : World) (h : Both w St Sd gt g bs safe most xs n) (B : Option Addr) (m d : Nat) (ys : List Int) (hr : Rd w .u8 B m ys)
    (hm : m ≤ 60000) (hx : xs.length ≤ 1099511627776) (hfit : most < (bs.length : Int) + (20 + m : Nat)) :
    Calls Try.prog 93 #[.pointer (some ⟨g, 0, none⟩), .slice B m d] w fun e w' => e = .returned (.int .i64 20) ∧ Ext w w' := by
  obtain ⟨ht, ⟨A, k, c, hd⟩, hs⟩ := h
  obtain rfl := hd.rows.len
  obtain rfl := hr.len
  obtain ⟨d0, d1, d2⟩ := hd.flds
  have q0 := d0 _ (Ext.refl w)
  replace d0 : ∀ W, Ext w.drew W → W.cell? ⟨g, 0, none⟩ = some (.pointer (some ⟨gt, 0, none⟩)) := fun W hW => d0 W (drew_ext hW)
  replace d1 : ∀ W, Ext w.drew W → W.cell? ⟨g, 1, none⟩ = some (.slice A xs.length c) := fun W hW => d1 W (drew_ext hW)
  have c1 : IntKind.u64.wrap (xs.length : Int) = xs.length := wrap_u64 (by omega) (by omega)
  have c2 : IntKind.u64.wrap ((xs.length : Int) + 1) = xs.length + 1 := wrap_u64 (by omega) (by omega)
  have HF := Lib.hid fun W (hr : Rd W .u8 B ys.length ys) => DiaryRec.frame_calls ((xs.length : Int) + 1) B ys.length d ys W hr hm (by omega) (by omega)
  have HFIT := Lib.hid hfit
  clear d2 hfit
  go_enter Try.func93, Try.ntmps93
  go_wp2_with fail
  refine Lex.wp_region_tail 13 [(12, .row w 5 .u8 (20 + ys.length) (frame ((xs.length : Int) + 1) ys))] (by kernel_rfl) (by kernel_rfl) (by repeat (first | exact Lex.st_nil | refine Lex.st_cons (by first | exact Lex.nums_st | exact Lex.const_st | exact Lex.such_st | exact Lex.row_st | exact Lex.rowE_st | exact Lex.litR_st | assumption) ?_)) ?_; simp only [List.take_succ_cons, List.take_zero, List.drop_succ_cons, List.drop_zero]
  repeat (first | (refine Lex.lexT_skip (by rfl) ?_; simp only [Act.put, List.setIfInBounds_toArray, List.set_cons_zero, List.set_cons_succ]) | (refine Lex.lexT_still (by rfl) (by rfl) ?_; apply Exists.intro; refine ⟨fun W hW => ?_, ?_⟩; (have hE := hW.1; have hE2 := Base.Ext.trans (Base.Ext.drew (Base.Ext.refl _)) hW.1; clear hW; go_simp; try with_reducible rfl); simp only [Act.put, List.setIfInBounds_toArray, List.set_cons_zero, List.set_cons_succ]))
  refine Lex.lexT_loose (by rfl) (by rfl) (fun W hW => ?_) ?_
  · have hE := drew_ext hW.1
    go_simp
    refine (HF.out _ (hr.ext hE)).mono ?_
    rintro e w10 ⟨A10, c10, rfl, ho10, he10⟩
    exact ⟨_, rfl, ⟨A10, c10, rfl, ho10.cap.1⟩, he10, Lex.row_mk (ho10.mono fun i _ hi => Nat.le_trans hE.size hi)⟩
  rintro v ⟨A5, c5, rfl, -⟩
  simp only [Act.put, List.setIfInBounds_toArray, List.set_cons_zero, List.set_cons_succ]
  repeat (first | (refine Lex.lexT_skip (by rfl) ?_; simp only [Act.put, List.setIfInBounds_toArray, List.set_cons_zero, List.set_cons_succ]) | (refine Lex.lexT_still (by rfl) (by rfl) ?_; apply Exists.intro; refine ⟨fun W hW => ?_, ?_⟩; (have hE := hW.1; have hE2 := Base.Ext.trans (Base.Ext.drew (Base.Ext.refl _)) hW.1; clear hW; go_simp; try with_reducible rfl); simp only [Act.put, List.setIfInBounds_toArray, List.set_cons_zero, List.set_cons_succ]))
  refine Lex.lexT_nil (fun W hW => ?_)
  have hE := drew_ext hW.1
  clear hW d0 d1 c1 c2 q0
  go_wp2_with fail
  refine (Tape.append_full St gt bs safe most A5 (20 + ys.length) c5 _ (ht.ext hE) (by omega) HFIT.out).mono ?_
  rintro e w4 ⟨rfl, he4⟩
  go_wp2_with fail
  go_ret
  exact ⟨rfl, hE.trans he4⟩
set_option maxRecDepth 100000 in
set_option maxHeartbeats 1000000 in
theorem get_calls (S : Nat → Prop) (g gt : Nat) (xs : List (List Int)) (n : Nat) (w : World) (h : Diary w S g gt xs n) (k : Nat) (x : List Int) (hk : xs[k]? = some x) (hx : x.length ≤ 1099511627776) :
    Calls Try.prog 89 #[.pointer (some ⟨g, 0, none⟩), .int .i64 ((k : Int) + 1)] w fun e w' => Ext w w' ∧ ∃ A' c', e = .returned (.tuple #[.slice A' x.length c', .bool true]) ∧ New w w' 5 1 A' x.length c' (nums .u8 x) ∧ ∀ y ∈ x, (Lit.int .u8 y).wf = true := by
  obtain ⟨A, m, c, h⟩ := h
  obtain rfl := h.rows.len
  have hkl := (List.getElem?_eq_some_iff.1 hk).1
  obtain ⟨vs, ho, hrep⟩ := h.rows
  have hroom := own_room ho
  obtain ⟨v, hv, hb⟩ := hrep.at_ hk
  obtain ⟨B, l, d, rfl, _⟩ := id hb
  obtain ⟨ad, rfl, hc⟩ := own_cell ho hv
  have hr := hb.rd
  obtain rfl := hr.len
  have q1 := h.flds.2.1 _ (Ext.refl w)
  have hi : (k : Int) + 1 - 1 = k := by omega
  have h0 : (0 : Int) ≤ k := by omega
  have h1 : (k : Int) < xs.length := by omega
  clear hv hk
  go_enter Try.func89, Try.ntmps89
  go_wp2_with fail
  refine (clone8 B x.length d x _ hr (by omega)).mono ?_
  rintro e w1 ⟨he1, A1, c1, rfl, ho1⟩
  go_wp2_with fail
  go_ret2
  exact ⟨he1, A1, c1, rfl, ho1, hr.wf⟩
set_option maxRecDepth 100000 in
theorem get_no (S : Nat → Prop) (g gt : Nat) (xs : List (List Int)) (n : Nat) (w : World) (h : Diary w S g gt xs n) (k : Int) (hk : k < 1 ∨ (xs.length : Int) < k) :
    Calls Try.prog 89 #[.pointer (some ⟨g, 0, none⟩), .int .i64 k] w fun e w' => e = .returned (.tuple #[.slice none 0 0, .bool false]) ∧ w = w' := by
  obtain ⟨A, m, c, h⟩ := h
  obtain rfl := h.rows.len
  have q1 := h.flds.2.1 _ (Ext.refl w)
  have hk : k < 1 ∨ (1 ≤ k ∧ (xs.length : Int) < k) := by omega
  rcases hk with hk | ⟨hk0, hk⟩
  all_goals
    go_enter Try.func89, Try.ntmps89
    go_wp2_with fail
    go_ret2
    exact ⟨rfl, rfl⟩
end Go.Proofs.Ytipmkddcdnbihaa.Diary
/- A tape and a diary beside a table: what they write hides nothing of the table. -/
namespace Go.Proofs.Ytipmkddcdnbihaa.Bk
open Go.RowKit Base Step Vec Shape Erase
open Diary (Both Or2)
/-- A block of which tapes and diaries are made. -/
def Pl (w : World) (i : Nat) : Prop := ∃ cs T f, w.heap[i]? = some (.cells cs T f) ∧ plainT T = true
theorem own_pl {w : World} {S : Nat → Prop} {e : TypeId} {size n : Nat} {v : Value} {xs : List Value} (h : Own w S e size v n xs) (he : plainT e = true) : Own w (fun i => S i ∧ Pl w i) e size v n xs := by
  refine ⟨h.row, fun k hk => ⟨h.foot k hk, ?_⟩⟩
  rcases h.row.2 with ⟨h2, _⟩ | ⟨g, cap, cur, rfl, hb, hh, h3⟩
  · rw [h2] at hk
    cases hk
  · cases hk
    exact ⟨_, _, _, hh, he⟩
theorem tape_pl {w : World} {S : Nat → Prop} {g : Nat} {bs : List Int} {safe : Nat} {most : Int} (h : Tape.Tape w S g bs safe most) : Tape.Tape w (fun i => S i ∧ Pl w i) g bs safe most := by
  obtain ⟨A, n, c, h⟩ := h
  exact ⟨A, n, c, h.at_, own_pl h.own (by decide), ⟨h.foot, _, _, _, h.at_, by decide⟩, h.wf, fun i hi => h.lt i hi.1, h.safe, h.most⟩
theorem diary_pl {w : World} {S : Nat → Prop} {g gt n : Nat} {xs : List (List Int)} (h : Diary.Diary w S g gt xs n) : Diary.Diary w (fun i => S i ∧ Pl w i) g gt xs n := by
  obtain ⟨A, m, c, h⟩ := h
  obtain ⟨vs, h1, h2⟩ := h.rows
  exact ⟨A, m, c, h.at_, ⟨vs, own_pl h1 (by decide), h2.imp fun v x ⟨A, n, c, e, k1, k2⟩ => ⟨A, n, c, e, own_pl k1 (by decide), k2⟩⟩, ⟨h.foot, _, _, _, h.at_, by decide⟩, fun i hi => h.lt i hi.1, h.n⟩
theorem both_pl {w : World} {St Sd : Nat → Prop} {gt g : Nat} {bs : List Int} {safe : Nat} {most : Int} {xs : List (List Int)} {n : Nat} (h : Both w St Sd gt g bs safe most xs n) : Both w (fun i => St i ∧ Pl w i) (fun i => Sd i ∧ Pl w i) gt g bs safe most xs n :=
  ⟨tape_pl h.t, diary_pl h.d, fun i h1 h2 => h.sep i h1.1 h2.1⟩
/-- What a book's calls write: from block N on, the table's block, and blocks of which tapes and diaries are made. -/
def Wr (N gt : Nat) (w : World) (i : Nat) : Prop := N ≤ i ∧ (i = gt ∨ Pl w i)
abbrev BkChg (N gt : Nat) (w w' : World) : Prop := Chg (Wr N gt w) w w'
theorem BkChg.refl (N gt : Nat) (w : World) : BkChg N gt w w := Chg.refl _ _
theorem chg_ext {S : Nat → Prop} {a b c : World} (h : Chg S a b) (k : Ext b c) : Chg S a c :=
  ⟨k.os.trans h.os, k.tape.trans h.tape, k.output.trans h.output, Nat.le_trans h.size k.size, fun i hi hn => (k.block i (Nat.lt_of_lt_of_le hi h.size)).trans (h.block i hi hn)⟩
theorem ext_bk {N gt : Nat} {w w' : World} (h : Ext w w') : BkChg N gt w w' := Below.chg h
theorem BkChg.trans {N gt : Nat} {a b c : World} (h : BkChg N gt a b) (k : BkChg N gt b c) : BkChg N gt a c :=
  ⟨k.os.trans h.os, k.tape.trans h.tape, k.output.trans h.output, Nat.le_trans h.size k.size, fun i hi hn =>
    (k.block i (Nat.lt_of_lt_of_le hi h.size) fun hs => hn ⟨hs.1, hs.2.elim .inl fun ⟨cs, T, f, h1, h2⟩ => .inr ⟨cs, T, f, (h.block i hi hn) ▸ h1, h2⟩⟩).trans (h.block i hi hn)⟩
theorem bk_pl {N gt : Nat} {S : Nat → Prop} {w w' : World} (h : Chg S w w') (hS : ∀ i, S i → N ≤ i ∧ Pl w i) : BkChg N gt w w' := h.mono fun i _ hi => ⟨(hS i hi).1, .inr (hS i hi).2⟩
theorem bk_gt {N gt : Nat} {w w' : World} (h : Chg (fun i => i = gt) w w') (hN : N ≤ gt) : BkChg N gt w w' := h.mono fun i _ hi => ⟨by rw [hi]; exact hN, .inl hi⟩
/-- All that was there ahead is as it was. -/
theorem BkChg.grown {N gt : Nat} {w0 w w' : World} (h : BkChg N gt w w') (he : Ext w0 w) (hN : w0.heap.size ≤ N) : Ext w0 w' := he.chg h fun i hi => Nat.le_trans hN hi.1
theorem tb_pl {w W : World} {gt sl nd : Nat} {t : Tbl.Tb} {S : Nat → Prop} (h : Tbl.TbAt w gt sl nd t) (hc : Chg S w W) (hS : ∀ i, S i → Pl w i) : Tbl.TbAt W gt sl nd t :=
  ⟨hc.at_ h.at_ (fun k => by
    obtain ⟨cs, T, f, h1, h2⟩ := hS _ k
    rw [h.at_] at h1
    cases h1
    exact absurd h2 (by decide)), Sh.ok_plain h.ok hc hS⟩
end Go.Proofs.Ytipmkddcdnbihaa.Bk
