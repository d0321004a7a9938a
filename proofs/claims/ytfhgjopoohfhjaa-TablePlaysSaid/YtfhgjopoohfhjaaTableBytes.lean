/- A table's bytes: the program's writer; walked. -/
import Derived.Test.YtfhgjopoohfhjaaTableUse
import Derived.Test.YtfhgjopoohfhjaaRef01
namespace Go.Proofs.Ytfhgjopoohfhjaa.Tbl
open Go.RowKit Base Step Vec Shape Erase
/-- A text's bytes. -/
def bytesI (s : ByteArray) : List Int := s.data.toList.map fun b => (b.toNat : Int)
theorem bytesI_len (s : ByteArray) : (bytesI s).length = s.size := by
  unfold bytesI
  rw [List.length_map, Array.length_toList]
  rfl
theorem bytesI_wf (s : ByteArray) : ∀ x ∈ bytesI s, (Lit.int .u8 x).wf = true := fun x hx => by
  obtain ⟨b, _, rfl⟩ := List.mem_map.1 hx
  exact u8_wf (by omega) (by have := b.toNat_lt; omega)
theorem conv_str (W : World) (s : ByteArray) (hs : s.size ≤ 140737488351232) : ∃ c W', (convert 9 22 (.string s)).run Try.prog W = .ok (.slice (some ⟨W.heap.size, 0, none⟩) s.size c) W' ∧ Ext W W' ∧ Rd W' .u8 (some ⟨W.heap.size, 0, none⟩) s.size (bytesI s) ∧ W.heap.size < W'.heap.size := by
  have h := run_bytes_of_string (P := Try.prog) W 9 22 5 s Try.underlying9 Try.underlying22 Try.underlying5
  refine ⟨_, _, h, (Ext.refl W).drew.alloc _, ⟨bytesI_len s, by omega, bytesI_wf s, fun h0 => ⟨_, rfl, fun j hj => ?_⟩⟩, ?_⟩
  · refine World.news_of_block (at_new _ _) j _ ?_
    have h1 : j < s.data.toList.length := by rw [Array.length_toList]; exact hj
    simp only [bytesRow, bytesI, Array.toList_append, Array.toList_map]
    rw [List.getElem?_append_left (by simpa using h1), List.getElem?_map, List.getElem?_eq_getElem h1, List.getD_eq_getElem?_getD, List.getElem?_map, List.getElem?_eq_getElem h1]
    rfl
  · simp
/-! writers in a region that draws -/
theorem writer_mono {W : World} {f f' : Nat → Prop} {g : Nat} {xs : List Int} (h : Pack.Writer W f g xs) (hf : ∀ i, i < W.heap.size → f i → f' i) : Pack.Writer W f' g xs := by
  obtain ⟨A, n, c, h1⟩ := h
  exact ⟨A, n, c, h1.at_, h1.own.mono hf, hf _ (Pack.lt_of_at h1.at_) h1.foot, h1.wf⟩
def wrR (P : Nat → Prop) (g : Nat) (xs : List Int) : Lex.LooseR := ⟨fun v => v = .pointer (some ⟨g, 0, none⟩), fun _ f W => Pack.Writer W f g xs ∧ ∀ i, f i → P i ∧ i < W.heap.size⟩
theorem wrR_ok {lo P : Nat → Prop} {g : Nat} {xs : List Int} : (wrR P g xs).Ok lo :=
  ⟨⟨_, rfl⟩, fun v f W W' S hr hc hf _ => ⟨hr.1.chg hc hf, fun i hi => ⟨(hr.2 i hi).1, Nat.lt_of_lt_of_le (hr.2 i hi).2 hc.size⟩⟩⟩
theorem wr_call {L : List (Nat × Nat)} {G : Nat → Nat → Prop} {k : Nat} {W : World} {P f : Nat → Prop} {g : Nat} {ys : List Int} {fn : FuncId} {vs : Array Value} (hb : ∀ i, f i → P i ∧ i < W.heap.size) (hcf : ∀ i, f i → Lex.CF L k G i) (hP : ∀ i, W.heap.size ≤ i → P i)
    (hcall : Calls Try.prog fn vs W fun e w' => e = .returned (.pointer (some ⟨g, 0, none⟩)) ∧ Pack.Writer w' (fun i => f i ∨ W.heap.size ≤ i) g ys ∧ Chg (fun i => f i ∨ W.heap.size ≤ i) W w') :
    Calls Try.prog fn vs W fun e W'' => ∃ v, e = .returned v ∧ (wrR P g ys).T v ∧ Chg (Lex.CF L k G) W W'' ∧ ∃ f', (wrR P g ys).R v f' W'' ∧ ∀ i, f' i → (W.heap.size ≤ i ∧ i < W''.heap.size) ∨ Lex.CF L k G i :=
  hcall.mono fun e w' ⟨h1, h2, h3⟩ => by
    refine ⟨_, h1, rfl, h3.mono fun i hi hk => hk.elim (hcf i) fun h => absurd hi (by omega), fun i => (f i ∨ W.heap.size ≤ i) ∧ i < w'.heap.size, ⟨writer_mono h2 fun i hi hk => ⟨hk, hi⟩, fun i hi => ⟨hi.1.elim (fun h => (hb i h).1) (hP i), hi.2⟩⟩, fun i hi => ?_⟩
    rcases hi.1 with h | h
    · exact .inr (hcf i h)
    · exact .inl ⟨h, hi.2⟩
/-- Bytes that read so, out of blocks of their own. -/
def rdR (n : Nat) (xs : List Int) : Lex.LooseR := ⟨fun v => ∃ A c, v = .slice A n c, fun v f W => ∀ A c, v = .slice A n c → Rd W .u8 A n xs ∧ ∀ ad, A = some ad → 0 < n → f ad.block⟩
theorem rdR_ok {lo : Nat → Prop} {n : Nat} {xs : List Int} : (rdR n xs).Ok lo :=
  ⟨⟨.slice none n 0, none, 0, rfl⟩, fun v f W W' S hr hc hf _ A c e => ⟨(hr A c e).1.chg hc fun ad ha h0 => hf _ ((hr A c e).2 ad ha h0), (hr A c e).2⟩⟩
/-- A text, written. -/
def textB (s : ByteArray) : List Int := Le.le 2 s.size ++ bytesI s
set_option maxRecDepth 100000 in
set_option maxHeartbeats 1000000 in
theorem wtext_calls (S : Nat → Prop) (g : Nat) (xs : List Int) (B : Option Addr) (m cb : Nat) (ys : List Int) (w : World) (hS : ∀ i, w.heap.size ≤ i → S i) (hw : Pack.Writer w S g xs) (hr : Rd w .u8 B m ys) (hne : ∀ ad, B = some ad → 0 < m → ¬ S ad.block) (hx : xs.length ≤ 1099511627000) (hm : m ≤ 1000) :
    Calls Try.prog 194 #[.pointer (some ⟨g, 0, none⟩), .slice B m cb] w fun e w' => e = .returned (.pointer (some ⟨g, 0, none⟩)) ∧ Pack.Writer w' S g (xs ++ (Le.le 2 m ++ ys)) ∧ Chg S w w' := by
  have HS := Lib.hid hS
  have HW := Lib.hid hw
  have HR := Lib.hid hr
  have HNE := Lib.hid hne
  clear hS hw hr hne
  have W0 : IntKind.u64.wrap ((m : Nat) : Int) = ((m : Nat) : Int) := IntWalk.u64_in _ (by omega)
  go_enter Try.func194, Try.ntmps194
  go_wp2_with fail
  refine (Pack.num_calls S g xs m 2 w HS.out HW.out (by decide) (by decide) (by omega) (by omega) (by omega)).mono ?_
  rintro e w1 ⟨rfl, hw1, hc1⟩
  have HW1 := Lib.hid hw1
  have HC1 := Lib.hid hc1
  clear hw1 hc1
  go_wp2_with fail
  refine (Pack.wraw_calls S g (xs ++ Le.le 2 m) B m cb ys w1 (fun i hi => HS.out i (Nat.le_trans HC1.out.size hi)) HW1.out (HR.out.chg HC1.out HNE.out) (by rw [List.length_append, Le.le_length]; omega) (by omega)).mono ?_
  rintro e w2 ⟨rfl, hw2, hc2⟩
  have HW2 := Lib.hid hw2
  have HC2 := Lib.hid (HC1.out.trans hc2)
  clear hw2 hc2
  go_wp2_with fail
  go_ret
  exact ⟨rfl, by rw [← List.append_assoc]; exact HW2.out, HC2.out⟩
theorem num_w {f : Nat → Prop} {g : Nat} {xs ys : List Int} {n size : Int} {W : World} (hw : Pack.Writer W f g xs) (h0 : 0 ≤ size) (h8 : size ≤ 8) (hn0 : 0 ≤ n) (hn1 : n < 18446744073709551616) (hx : xs.length ≤ 1099511627776) (hy : xs ++ Le.le size.toNat n = ys) :
    Calls Try.prog 95 #[.pointer (some ⟨g, 0, none⟩), .int .u64 n, .int .i64 size] W fun e w' => e = .returned (.pointer (some ⟨g, 0, none⟩)) ∧ Pack.Writer w' (fun i => f i ∨ W.heap.size ≤ i) g ys ∧ Chg (fun i => f i ∨ W.heap.size ≤ i) W w' := by
  subst hy
  exact Pack.num_calls (fun i => f i ∨ W.heap.size ≤ i) g xs n size W (fun i hi => .inr hi) (writer_mono hw fun _ _ k => .inl k) h0 h8 hn0 hn1 hx
/-! a table's bytes -/
def hdrB (t : Tb) : List Int := Le.le 4 t.nx ++ Le.le 4 t.ls ++ Le.le 1 t.n
def pl1 (o : Obj) : Int := (plan o).1
def pl2 (o : Obj) : Int := (plan o).2.1
def pl3 (o : Obj) : Int := (plan o).2.2.1
def objB (o : Obj) : List Int := Le.le 4 (num o) ++ textB (name o) ++ Le.le 4 (pl1 o) ++ Le.le 2 (pl2 o) ++ Le.le 2 (pl3 o)
def placeB (p : plS.T) : List Int := Le.le 1 (node p) ++ Le.le 4 (gen p)
def rowB (r : Row) : List Int := (rP r).flatMap placeB
def wholeB (o : Obj) : List Int := objB o ++ (rows o).flatMap rowB
def tableB (t : Tb) : List Int := hdrB t ++ t.objs.flatMap wholeB
/-- What can be written. -/
structure FineO (nd sl : Nat) (o : Obj) : Prop where
  num0 : 0 ≤ num o
  num1 : num o < 4294967296
  nm : (name o).size ≤ 64
  l0 : 0 ≤ pl1 o
  l1 : pl1 o ≤ 16384
  c0 : 0 ≤ pl2 o
  c1 : pl2 o ≤ 32
  p0 : 0 ≤ pl3 o
  p1 : pl3 o ≤ 256
  rws : (rows o).length ≤ 32 ∧ (rows o).length = pN o
  each : ∀ r ∈ rows o, rN r = sl ∧ ∀ p ∈ rP r, 0 ≤ node p ∧ node p < nd ∧ 0 ≤ gen p ∧ gen p < 4294967296
theorem FineO.few {nd sl : Nat} {objs : List Obj} (h : ∀ o ∈ objs, FineO nd sl o) (h64 : objs.length ≤ 64) : Few nd sl objs :=
  ⟨h64, fun o ho => ⟨(h o ho).rws.1, (h o ho).rws.2, fun r hr => ⟨((h o ho).each r hr).1, fun p hp => ⟨(((h o ho).each r hr).2 p hp).1, (((h o ho).each r hr).2 p hp).2.1⟩⟩⟩⟩
theorem objB_len {nd sl : Nat} {o : Obj} (h : FineO nd sl o) : (objB o).length ≤ 78 := by
  have := h.nm
  simp [objB, textB, Le.le_length, bytesI_len]
  omega
theorem rowB_len {nd sl : Nat} {o : Obj} (h : FineO nd sl o) (hsl : sl ≤ 24) (hok : ∀ r ∈ rows o, (rP r).length = rN r) : ∀ r ∈ rows o, (rowB r).length ≤ 120 := fun r hr => by
  have h1 := flat_le_mul placeB 5 (rP r) fun p _ => by simp [placeB, Le.le_length]
  have h2 := hok r hr
  have h3 := ((h.each r hr).1)
  unfold rowB
  omega
set_option maxRecDepth 100000 in
set_option maxHeartbeats 8000000 in
theorem bytes_calls (gt sl nd : Nat) (t : Tb) (w : World) (h : TbAt w gt sl nd t) (hf : ∀ o ∈ t.objs, FineO nd sl o) (h64 : t.objs.length ≤ 64) (hsl : sl ≤ 24) (hnd : nd ≤ 32) (hx0 : 0 ≤ t.nx) (hx1 : t.nx ≤ 4294967295) (hl0 : 0 ≤ t.ls) (hl1 : t.ls ≤ 4294967295) :
    Calls Try.prog 143 #[.pointer (some ⟨gt, 0, none⟩)] w fun e w' => Ext w w' ∧ ∃ A c, e = .returned (.slice A (tableB t).length c) ∧ New w w' 5 1 A (tableB t).length c (nums .u8 (tableB t)) := by
  obtain ⟨nx, ls, A, n, c, objs⟩ := t
  have h : TblAt w gt sl nd nx ls A n c objs := h
  have hx0 : 0 ≤ nx := hx0
  have hx1 : nx ≤ 4294967295 := hx1
  have hl0 : 0 ≤ ls := hl0
  have hl1 : ls ≤ 4294967295 := hl1
  have H := Lib.hid h
  have HF : Hid (∀ o ∈ objs, FineO nd sl o) := Lib.hid hf
  obtain ⟨hl, hnc, _, _⟩ := sl_len h.ok
  have hn64 : n ≤ 64 := by have h64 : objs.length ≤ 64 := h64; omega
  have HL := Lib.hid hl
  have HROWS := Lib.hid (objs_rows h.ok)
  have hgt := h.lt
  have hat := h.at_
  clear h hf hl h64
  go_enter Try.func143, Try.ntmps143
  go_upto_region 4 with fail
  have hw1 := Pack.writer_new (fun i => w.heap.size ≤ i) w (Nat.le_refl _)
  have he1 := Ext.new w (.cells #[.slice none 0 0] 174)
  have hsz1 : (w.alloc (.cells #[.slice none 0 0] 174)).heap.size = w.heap.size + 1 := by simp
  have hat1 := he1.at_ hat
  clear hat
  generalize w.alloc (.cells #[.slice none 0 0] 174) = w1 at *
  have HE1 := Lib.hid he1
  obtain ⟨f0, hf0⟩ : ∃ f0 : Nat → Prop, f0 = fun i => w.heap.size ≤ i ∧ i < w1.heap.size := ⟨_, rfl⟩
  have hfw : Pack.Writer w1 f0 w.heap.size [] := by rw [hf0]; exact writer_mono hw1 fun i hi k => ⟨k, hi⟩
  have hcellA : ∀ W, Chg f0 w1.drew W → W.heap[gt]? = some (.cells #[.int .i64 sl, .int .i64 nd, .int .u32 nx, .int .u32 ls, .slice A n c] 215 (0, 0)) := fun W hW => hW.at_ (i := gt) (show w1.drew.heap[gt]? = _ from hat1) (by rw [hf0]; exact fun k => by omega)
  have z2 : ∀ W, Chg f0 w1.drew W → W.cell? ⟨gt, 2, none⟩ = some (.int .u32 nx) := fun W hW => blk_cell (i := 2) (hcellA W hW) (Ext.refl _) rfl
  have z3 : ∀ W, Chg f0 w1.drew W → W.cell? ⟨gt, 3, none⟩ = some (.int .u32 ls) := fun W hW => blk_cell (i := 3) (hcellA W hW) (Ext.refl _) rfl
  have z4 : ∀ W, Chg f0 w1.drew W → W.cell? ⟨gt, 4, none⟩ = some (.slice A n c) := fun W hW => blk_cell (i := 4) (hcellA W hW) (Ext.refl _) rfl
  have W0 : IntKind.u64.wrap nx = nx := IntWalk.u64_in _ (by omega)
  have W1 : IntKind.u64.wrap ls = ls := IntWalk.u64_in _ (by omega)
  have W2 : IntKind.u64.wrap ((n : Nat) : Int) = ((n : Nat) : Int) := IntWalk.u64_in _ (by omega)
  have HFW := Lib.hid hfw
  have HB0 : Hid (∀ i, f0 i → (fun i => w.heap.size ≤ i) i ∧ i < w1.drew.heap.size) := Lib.hid (by rw [hf0]; exact fun i hi => hi)
  have HP0 : Hid (∀ W, Chg f0 w1.drew W → ∀ i, W.heap.size ≤ i → w.heap.size ≤ i) := Lib.hid fun W hW i hi => Nat.le_trans he1.size (Nat.le_trans hW.size hi)
  clear hfw hcellA hat1 he1 hw1 hf0
  refine Lex.wp_region_rw [0, 1, 2, 3, 4, 5, 6, 7, 8, 9, 10, 11, 12, 13, 14, 15, 16, 17, 18, 19] [] f0 20 (wrR (fun i => w.heap.size ≤ i) w.heap.size []) (.pointer (some ⟨w.heap.size, 0, none⟩)) [(6, 20), (12, 6), (19, 12)] [(6, wrR (fun i => w.heap.size ≤ i) w.heap.size (Le.le 4 nx)), (12, wrR (fun i => w.heap.size ≤ i) w.heap.size (Le.le 4 nx ++ Le.le 4 ls)), (19, wrR (fun i => w.heap.size ≤ i) w.heap.size (hdrB ⟨nx, ls, A, n, c, objs⟩))] (by kernel_rfl) (by kernel_rfl) (by kernel_rfl) (by repeat (first | exact Lex.ok_nilR | refine Lex.ok_consR (by first | exact Lex.rowR_ok | exact Tbl.wrR_ok | exact Tbl.rdR_ok | assumption) ?_)) (by first | exact Tbl.wrR_ok | exact Lex.rowR_ok) ⟨Pack.Writer.chg HFW.out (S' := fun _ => False) (Chg.drew (Chg.refl _ _)) (fun _ _ k => k), HB0.out⟩ (fun i hi => (HB0.out i hi).2) ?_; simp only [Lex.pick, List.getElem?_cons_succ, List.getElem?_cons_zero, List.map_cons, List.map_nil]
  repeat (first | (refine Lex.lexR_skip (by rfl) ?_; simp only [Act.put, List.setIfInBounds_toArray, List.set_cons_zero, List.set_cons_succ]) | (refine Lex.lexR_still (by rfl) (by rfl) ?_; apply Exists.intro; refine ⟨fun W hW => ?_, ?_⟩; (have hE := hW; clear hW; go_simp; try with_reducible rfl); simp only [Act.put, List.setIfInBounds_toArray, List.set_cons_zero, List.set_cons_succ]))
  refine Lex.lexR_loose (by rfl) (by rfl) (fun W hW hAP => ?_) ?_
  · obtain ⟨hwr, hbb⟩ := (hW.2 20 (by kernel_rfl) rfl).2 rfl
    have hP := HP0.out W hW.1
    clear hW hAP
    go_simp
    exact wr_call hbb (fun i hi => ⟨20, by simp, .inr ⟨rfl, hi⟩⟩) hP (num_w hwr (by decide) (by decide) hx0 (by omega) (by simp) rfl)
  rintro v f1 rfl
  simp only [Act.put, List.setIfInBounds_toArray, List.set_cons_zero, List.set_cons_succ]
  repeat (first | (refine Lex.lexR_skip (by rfl) ?_; simp only [Act.put, List.setIfInBounds_toArray, List.set_cons_zero, List.set_cons_succ]) | (refine Lex.lexR_still (by rfl) (by rfl) ?_; apply Exists.intro; refine ⟨fun W hW => ?_, ?_⟩; (have hE := hW; clear hW; go_simp; try with_reducible rfl); simp only [Act.put, List.setIfInBounds_toArray, List.set_cons_zero, List.set_cons_succ]))
  refine Lex.lexR_loose (by rfl) (by rfl) (fun W hW hAP => ?_) ?_
  · obtain ⟨hwr, hbb⟩ := (hW.2 6 (by kernel_rfl) rfl).2 rfl
    have hP := HP0.out W hW.1
    clear hW hAP
    go_simp
    exact wr_call hbb (fun i hi => ⟨6, by simp, .inr ⟨rfl, hi⟩⟩) hP (num_w hwr (by decide) (by decide) hl0 (by omega) (by simp [Le.le_length]) rfl)
  rintro v f2 rfl
  simp only [Act.put, List.setIfInBounds_toArray, List.set_cons_zero, List.set_cons_succ]
  repeat (first | (refine Lex.lexR_skip (by rfl) ?_; simp only [Act.put, List.setIfInBounds_toArray, List.set_cons_zero, List.set_cons_succ]) | (refine Lex.lexR_still (by rfl) (by rfl) ?_; apply Exists.intro; refine ⟨fun W hW => ?_, ?_⟩; (have hE := hW; clear hW; go_simp; try with_reducible rfl); simp only [Act.put, List.setIfInBounds_toArray, List.set_cons_zero, List.set_cons_succ]))
  refine Lex.lexR_loose (by rfl) (by rfl) (fun W hW hAP => ?_) ?_
  · obtain ⟨hwr, hbb⟩ := (hW.2 12 (by kernel_rfl) rfl).2 rfl
    have hP := HP0.out W hW.1
    clear hW hAP
    go_simp
    exact wr_call hbb (fun i hi => ⟨12, by simp, .inr ⟨rfl, hi⟩⟩) hP (num_w hwr (by decide) (by decide) (by omega) (by omega) (by simp [Le.le_length]) rfl)
  rintro v f3 rfl
  simp only [Act.put, List.setIfInBounds_toArray, List.set_cons_zero, List.set_cons_succ]
  repeat (first | (refine Lex.lexR_skip (by rfl) ?_; simp only [Act.put, List.setIfInBounds_toArray, List.set_cons_zero, List.set_cons_succ]) | (refine Lex.lexR_still (by rfl) (by rfl) ?_; apply Exists.intro; refine ⟨fun W hW => ?_, ?_⟩; (have hE := hW; clear hW; go_simp; try with_reducible rfl); simp only [Act.put, List.setIfInBounds_toArray, List.set_cons_zero, List.set_cons_succ]))
  refine Lex.lexR_nil (fun W hW hF => ?_)
  obtain ⟨hwr3, hbb3⟩ := (hF 19 rfl).2 rfl
  have hX4 : Ext w W := HE1.out.chg ((Chg.drew (Chg.refl _ _)).trans hW) fun i hi => (HB0.out i hi).1
  have HX4 := Lib.hid hX4
  have HW4 : Hid (Pack.Writer W (fun i => w.heap.size ≤ i) w.heap.size (hdrB ⟨nx, ls, A, n, c, objs⟩)) := Lib.hid (writer_mono hwr3 fun i _ hi => (hbb3 i hi).1)
  clear hW hF hwr3 hbb3 z2 z3 z4 hX4 HFW HB0 HP0
  refine Lex.onlyN_intro ?_
  have q4 : W.cell? ⟨gt, 4, none⟩ = some (.slice A n c) := blk_cell (i := 4) (H.out.ext HX4.out).at_ (Ext.refl _) rfl
  generalize hG : w.heap.size = g at *
  go_wp2_with fail
  go_loopg [39] n (fun q i wr => ∃ (k : Nat) (xs : List Int), k ≤ n ∧ q = n - k ∧ i = .int .i64 (k : Nat) ∧ xs.length ≤ 10 + k * 4000 ∧ Hid (xs = hdrB ⟨nx, ls, A, n, c, objs⟩ ++ (objs.take k).flatMap wholeB) ∧ Hid (Ext w wr) ∧ Hid (Pack.Writer wr (fun i => g ≤ i) g xs))
  case atStart => exact ⟨0, _, Nat.zero_le _, rfl, rfl, by simp [hdrB, Le.le_length], Lib.hid (by simp), HX4, HW4⟩
  case round =>
    clear HX4 HW4 q4
    obtain ⟨k, xs, hk, rfl, rfl, hxl, HXS, HX, HW⟩ := hrel
    by_cases hlt2 : k < n
    · obtain ⟨ad, o, rfl, ho, hcell, hok⟩ := obj_at (Sh.ok_off H.out.ok) hlt2
      obtain ⟨c0, c1, c2, c3, c4, c5⟩ := hcell.ext HX.out
      have HOB := Lib.hid ho
      have hom := List.mem_of_getElem? ho
      have HFO := Lib.hid (HF.out o hom)
      have hpl := (obj_ok hok).2.2.2
      have HPL := Lib.hid hpl
      have hol := objB_len HFO.out
      have hpn : pN o ≤ 32 := by have := HFO.out.rws.1; have := HFO.out.rws.2; omega
      have hpc : pN o ≤ pC o := (sl_len hpl).2.1
      have hki : ((k : Nat) : Int) < ((n : Nat) : Int) := by omega
      have HRL := Lib.hid (rowB_len HFO.out hsl (HROWS.out o hom))
      have hgs : g ≤ wr.heap.size := by rw [← hG]; exact HX.out.size
      clear hcell hok ho hom hpl
      go_upto_region 8 with (refine RowSt.wpList_put 108 _ _ rfl rfl rfl wr.heap.size #[.int .u32 (num o), .string (name o), .int .i64 (pl1 o), .int .i64 (pl2 o), .int .i64 (pl3 o), .slice (pA o) (pN o) (pC o)] rfl rfl 108 _ (at_new wr _) (by kernel_rfl) rfl (by simp [Value.oneCell']) ?_; intro w9 hb9 hc9)
      have hE9 : Ext wr w9 := (Ext.new wr _).chg hc9 fun i hi => by have hi : i = wr.heap.size := hi; omega
      have hbx : wr.heap.size < w9.heap.size := Pack.lt_of_at hb9
      have HX9 := Lib.hid (HX.out.trans hE9)
      obtain ⟨f0, hf0⟩ : ∃ f0 : Nat → Prop, f0 = fun i => (g ≤ i ∧ i ≠ wr.heap.size) ∧ i < w9.heap.size := ⟨_, rfl⟩
      have hfw : Pack.Writer w9 f0 g xs := by
        have h1 : Pack.Writer wr f0 g xs := by rw [hf0]; exact writer_mono HW.out fun i hi k => ⟨⟨k, by omega⟩, by omega⟩
        exact h1.chg (S' := fun _ => False) (Below.chg hE9) (fun _ _ k => k)
      have HB9 := Lib.hid hb9
      have hcellB : ∀ W, Chg f0 w9.drew W → W.heap[wr.heap.size]? = some (.cells #[.int .u32 (num o), .string (name o), .int .i64 (pl1 o), .int .i64 (pl2 o), .int .i64 (pl3 o), .slice (pA o) (pN o) (pC o)] 108 (0, 0)) := fun W hW => hW.at_ (i := wr.heap.size) (show w9.drew.heap[wr.heap.size]? = _ from hb9) (by rw [hf0]; exact fun k => k.1.2 rfl)
      have z0 : ∀ W, Chg f0 w9.drew W → W.cell? ⟨wr.heap.size, 0, none⟩ = some (.int .u32 (num o)) := fun W hW => blk_cell (i := 0) (hcellB W hW) (Ext.refl _) rfl
      have z1 : ∀ W, Chg f0 w9.drew W → W.cell? ⟨wr.heap.size, 1, none⟩ = some (.string (name o)) := fun W hW => blk_cell (i := 1) (hcellB W hW) (Ext.refl _) rfl
      have z2 : ∀ W, Chg f0 w9.drew W → W.cell? ⟨wr.heap.size, 2, none⟩ = some (.int .i64 (pl1 o)) := fun W hW => blk_cell (i := 2) (hcellB W hW) (Ext.refl _) rfl
      have z3 : ∀ W, Chg f0 w9.drew W → W.cell? ⟨wr.heap.size, 3, none⟩ = some (.int .i64 (pl2 o)) := fun W hW => blk_cell (i := 3) (hcellB W hW) (Ext.refl _) rfl
      have z4 : ∀ W, Chg f0 w9.drew W → W.cell? ⟨wr.heap.size, 4, none⟩ = some (.int .i64 (pl3 o)) := fun W hW => blk_cell (i := 4) (hcellB W hW) (Ext.refl _) rfl
      have W0 : IntKind.u64.wrap (num o) = num o := IntWalk.u64_in _ (by have := HFO.out.num0; have := HFO.out.num1; omega)
      have W1 : IntKind.u64.wrap (pl1 o) = pl1 o := IntWalk.u64_in _ (by have := HFO.out.l0; have := HFO.out.l1; omega)
      have W2 : IntKind.u64.wrap (pl2 o) = pl2 o := IntWalk.u64_in _ (by have := HFO.out.c0; have := HFO.out.c1; omega)
      have W3 : IntKind.u64.wrap (pl3 o) = pl3 o := IntWalk.u64_in _ (by have := HFO.out.p0; have := HFO.out.p1; omega)
      have HFW := Lib.hid hfw
      have HB0 : Hid (∀ i, f0 i → (fun i => g ≤ i ∧ i ≠ wr.heap.size) i ∧ i < w9.drew.heap.size) := Lib.hid (by rw [hf0]; exact fun i hi => hi)
      have HP0 : Hid (∀ W, Chg f0 w9.drew W → ∀ i, W.heap.size ≤ i → g ≤ i ∧ i ≠ wr.heap.size) := Lib.hid fun W hW i hi => by have h1 : w9.heap.size ≤ W.heap.size := hW.size; exact ⟨by omega, by omega⟩
      have HCB := Lib.hid hcellB
      clear hfw hb9 hc9 hf0 c0 c1 c2 c3 c4 c5 hcellB hE9
      refine Lex.wp_region_rw [0, 1, 2, 3, 4, 5, 6, 7, 8, 9, 10, 11, 12, 13, 14, 15, 16, 17, 18, 19, 20, 21, 22, 23] [] f0 24 (wrR (fun i => g ≤ i ∧ i ≠ wr.heap.size) g xs) (.pointer (some ⟨g, 0, none⟩)) [(4, 24), (8, 4), (13, 8), (18, 13), (23, 18)] [(4, wrR (fun i => g ≤ i ∧ i ≠ wr.heap.size) g (xs ++ Le.le 4 (num o))), (7, rdR (name o).size (bytesI (name o))), (8, wrR (fun i => g ≤ i ∧ i ≠ wr.heap.size) g (xs ++ Le.le 4 (num o) ++ textB (name o))), (13, wrR (fun i => g ≤ i ∧ i ≠ wr.heap.size) g (xs ++ Le.le 4 (num o) ++ textB (name o) ++ Le.le 4 (pl1 o))), (18, wrR (fun i => g ≤ i ∧ i ≠ wr.heap.size) g (xs ++ Le.le 4 (num o) ++ textB (name o) ++ Le.le 4 (pl1 o) ++ Le.le 2 (pl2 o))), (23, wrR (fun i => g ≤ i ∧ i ≠ wr.heap.size) g (xs ++ objB o))] (by kernel_rfl) (by kernel_rfl) (by kernel_rfl) (by repeat (first | exact Lex.ok_nilR | refine Lex.ok_consR (by first | exact Lex.rowR_ok | exact Tbl.wrR_ok | exact Tbl.rdR_ok | assumption) ?_)) (by first | exact Tbl.wrR_ok | exact Lex.rowR_ok) ⟨Pack.Writer.chg HFW.out (S' := fun _ => False) (Chg.drew (Chg.refl _ _)) (fun _ _ k => k), HB0.out⟩ (fun i hi => (HB0.out i hi).2) ?_; simp only [Lex.pick, List.getElem?_cons_succ, List.getElem?_cons_zero, List.map_cons, List.map_nil]
      repeat (first | (refine Lex.lexR_skip (by rfl) ?_; simp only [Act.put, List.setIfInBounds_toArray, List.set_cons_zero, List.set_cons_succ]) | (refine Lex.lexR_still (by rfl) (by rfl) ?_; apply Exists.intro; refine ⟨fun W hW => ?_, ?_⟩; (have hE := hW; clear hW; go_simp; try with_reducible rfl); simp only [Act.put, List.setIfInBounds_toArray, List.set_cons_zero, List.set_cons_succ]))
      refine Lex.lexR_loose (by rfl) (by rfl) (fun W hW hAP => ?_) ?_
      · obtain ⟨hwr, hbb⟩ := (hW.2 24 (by kernel_rfl) rfl).2 rfl
        have hP := HP0.out W hW.1
        clear hW hAP
        go_simp
        exact wr_call hbb (fun i hi => ⟨24, by simp, .inr ⟨rfl, hi⟩⟩) hP (num_w hwr (by decide) (by decide) HFO.out.num0 (by have := HFO.out.num1; omega) (by omega) rfl)
      rintro v f1 rfl
      simp only [Act.put, List.setIfInBounds_toArray, List.set_cons_zero, List.set_cons_succ]
      repeat (first | (refine Lex.lexR_skip (by rfl) ?_; simp only [Act.put, List.setIfInBounds_toArray, List.set_cons_zero, List.set_cons_succ]) | (refine Lex.lexR_still (by rfl) (by rfl) ?_; apply Exists.intro; refine ⟨fun W hW => ?_, ?_⟩; (have hE := hW; clear hW; go_simp; try with_reducible rfl); simp only [Act.put, List.setIfInBounds_toArray, List.set_cons_zero, List.set_cons_succ]))
      refine Lex.lexR_loose (by rfl) (by rfl) (fun W hW hAP => ?_) ?_
      · clear hW hAP
        obtain ⟨cc, W', hrun, he, hrd, hlt⟩ := conv_str W (name o) (by have := HFO.out.nm; omega)
        go_simp
        exact ⟨⟨_, _, rfl⟩, Below.chg he, fun i => i = W.heap.size, fun A c e => by cases e; exact ⟨hrd, fun ad ha _ => by cases ha; rfl⟩, fun i hi => .inl (by have hi : i = W.heap.size := hi; subst hi; exact ⟨Nat.le_refl _, hlt⟩)⟩
      rintro v f2 ⟨A2, c2, rfl⟩
      simp only [Act.put, List.setIfInBounds_toArray, List.set_cons_zero, List.set_cons_succ]
      refine Lex.lexR_loose (by rfl) (by rfl) (fun W hW hAP => ?_) ?_
      · obtain ⟨hwr, hbb⟩ := (hW.2 4 (by kernel_rfl) rfl).1.2 rfl
        obtain ⟨hrd, hrf⟩ := (hW.2 7 (by kernel_rfl) rfl).2 rfl _ _ rfl
        have hsep : ∀ i, f1 i → ¬ f2 i := fun i h1 h2 => hAP 4 7 i (by kernel_rfl) rfl (by kernel_rfl) rfl (by decide) (.inl (.inr ⟨rfl, h1⟩)) (.inr ⟨rfl, h2⟩)
        have hP := HP0.out W hW.1
        clear hW hAP
        go_simp
        refine wr_call hbb (fun i hi => ⟨4, by simp, .inl (.inr ⟨rfl, hi⟩)⟩) hP ((wtext_calls (fun i => f1 i ∨ W.heap.size ≤ i) g (xs ++ Le.le 4 (num o)) A2 (name o).size c2 (bytesI (name o)) W (fun i hi => .inr hi) (writer_mono hwr fun _ _ k => .inl k) hrd (fun ad ha h0 hS => ?_) (by simp [Le.le_length]; omega) (by have := HFO.out.nm; omega)).mono fun e w' he => by simpa only [List.append_assoc, textB] using he)
        rcases hS with hS | hS
        · exact hsep _ hS (hrf ad ha h0)
        · subst ha
          have h1 := hrd.lt h0
          omega
      rintro v f3 rfl
      simp only [Act.put, List.setIfInBounds_toArray, List.set_cons_zero, List.set_cons_succ]
      repeat (first | (refine Lex.lexR_skip (by rfl) ?_; simp only [Act.put, List.setIfInBounds_toArray, List.set_cons_zero, List.set_cons_succ]) | (refine Lex.lexR_still (by rfl) (by rfl) ?_; apply Exists.intro; refine ⟨fun W hW => ?_, ?_⟩; (have hE := hW; clear hW; go_simp; try with_reducible rfl); simp only [Act.put, List.setIfInBounds_toArray, List.set_cons_zero, List.set_cons_succ]))
      refine Lex.lexR_loose (by rfl) (by rfl) (fun W hW hAP => ?_) ?_
      · obtain ⟨hwr, hbb⟩ := (hW.2 8 (by kernel_rfl) rfl).2 rfl
        have hP := HP0.out W hW.1
        clear hW hAP
        go_simp
        exact wr_call hbb (fun i hi => ⟨8, by simp, .inr ⟨rfl, hi⟩⟩) hP (num_w hwr (by decide) (by decide) HFO.out.l0 (by have := HFO.out.l1; omega) (by have := HFO.out.nm; simp [Le.le_length, textB, bytesI_len]; omega) (by simp only [List.append_assoc]; rfl))
      rintro v f4 rfl
      simp only [Act.put, List.setIfInBounds_toArray, List.set_cons_zero, List.set_cons_succ]
      repeat (first | (refine Lex.lexR_skip (by rfl) ?_; simp only [Act.put, List.setIfInBounds_toArray, List.set_cons_zero, List.set_cons_succ]) | (refine Lex.lexR_still (by rfl) (by rfl) ?_; apply Exists.intro; refine ⟨fun W hW => ?_, ?_⟩; (have hE := hW; clear hW; go_simp; try with_reducible rfl); simp only [Act.put, List.setIfInBounds_toArray, List.set_cons_zero, List.set_cons_succ]))
      refine Lex.lexR_loose (by rfl) (by rfl) (fun W hW hAP => ?_) ?_
      · obtain ⟨hwr, hbb⟩ := (hW.2 13 (by kernel_rfl) rfl).2 rfl
        have hP := HP0.out W hW.1
        clear hW hAP
        go_simp
        exact wr_call hbb (fun i hi => ⟨13, by simp, .inr ⟨rfl, hi⟩⟩) hP (num_w hwr (by decide) (by decide) HFO.out.c0 (by have := HFO.out.c1; omega) (by have := HFO.out.nm; simp [Le.le_length, textB, bytesI_len]; omega) (by simp only [List.append_assoc]; rfl))
      rintro v f5 rfl
      simp only [Act.put, List.setIfInBounds_toArray, List.set_cons_zero, List.set_cons_succ]
      repeat (first | (refine Lex.lexR_skip (by rfl) ?_; simp only [Act.put, List.setIfInBounds_toArray, List.set_cons_zero, List.set_cons_succ]) | (refine Lex.lexR_still (by rfl) (by rfl) ?_; apply Exists.intro; refine ⟨fun W hW => ?_, ?_⟩; (have hE := hW; clear hW; go_simp; try with_reducible rfl); simp only [Act.put, List.setIfInBounds_toArray, List.set_cons_zero, List.set_cons_succ]))
      refine Lex.lexR_loose (by rfl) (by rfl) (fun W hW hAP => ?_) ?_
      · obtain ⟨hwr, hbb⟩ := (hW.2 18 (by kernel_rfl) rfl).2 rfl
        have hP := HP0.out W hW.1
        clear hW hAP
        go_simp
        exact wr_call hbb (fun i hi => ⟨18, by simp, .inr ⟨rfl, hi⟩⟩) hP (num_w hwr (by decide) (by decide) HFO.out.p0 (by have := HFO.out.p1; omega) (by have := HFO.out.nm; simp [Le.le_length, textB, bytesI_len]; omega) (by simp [objB]))
      rintro v f6 rfl
      simp only [Act.put, List.setIfInBounds_toArray, List.set_cons_zero, List.set_cons_succ]
      repeat (first | (refine Lex.lexR_skip (by rfl) ?_; simp only [Act.put, List.setIfInBounds_toArray, List.set_cons_zero, List.set_cons_succ]) | (refine Lex.lexR_still (by rfl) (by rfl) ?_; apply Exists.intro; refine ⟨fun W hW => ?_, ?_⟩; (have hE := hW; clear hW; go_simp; try with_reducible rfl); simp only [Act.put, List.setIfInBounds_toArray, List.set_cons_zero, List.set_cons_succ]))
      refine Lex.lexR_nil (fun W hW hF => ?_)
      obtain ⟨hwr3, hbb3⟩ := (hF 23 rfl).2 rfl
      have HX4 : Hid (Ext w W) := Lib.hid (HX9.out.chg ((Chg.drew (Chg.refl _ _)).trans hW) fun i hi => by have := (HB0.out i hi).1.1; omega)
      have HW4 : Hid (Pack.Writer W (fun i => g ≤ i) g (xs ++ objB o)) := Lib.hid (writer_mono hwr3 fun i _ hi => (hbb3 i hi).1.1)
      have x5 : W.cell? ⟨wr.heap.size, 5, none⟩ = some (.slice (pA o) (pN o) (pC o)) := blk_cell (i := 5) (HCB.out W hW) (Ext.refl _) rfl
      clear hW hF hwr3 hbb3 z0 z1 z2 z3 z4 HFW HB0 HP0 HCB HB9
      refine Lex.onlyN_intro ?_
      generalize wr.heap.size = bx at *
      obtain ⟨X, hX⟩ : ∃ X, X = xs ++ objB o := ⟨_, rfl⟩
      rw [← hX] at HW4
      have hXl : X.length ≤ 88 + k * 4000 := by rw [hX, List.length_append]; omega
      have HXX := Lib.hid hX
      clear hX
      go_wp2_with fail
      obtain ⟨wo, hwo⟩ : ∃ wo, wo = W := ⟨_, rfl⟩
      subst hwo
      clear x5
      generalize hPA : pA o = PA at HPL ⊢
      go_loopg [70] (pN o) (fun q i wi => ∃ (j : Nat) (ys : List Int), j ≤ pN o ∧ q = pN o - j ∧ i = .int .i64 (j : Nat) ∧ ys.length ≤ 88 + k * 4000 + j * 120 ∧ Hid (ys = X ++ ((rows o).take j).flatMap rowB) ∧ Hid (Ext w wi) ∧ Hid (Pack.Writer wi (fun i => g ≤ i) g ys))
      case atStart => exact ⟨0, X, Nat.zero_le _, rfl, rfl, by omega, Lib.hid (by simp), HX4, HW4⟩
      case round =>
        clear HX HW HX4 HW4 HX9
        obtain ⟨j, ys, hj, rfl, rfl, hyl, HYS, HX, HW⟩ := hrel
        by_cases hlt3 : j < pN o
        · obtain ⟨adp, r, rfl, hr0, hrow, hrok⟩ := row_at HPL.out hlt3
          have hrc := HX.out.cell_ hrow
          have hrm := List.mem_of_getElem? hr0
          have hre := HFO.out.each r hrm
          have hrs := hre.1
          have HPE := Lib.hid hre.2
          have HRB := Lib.hid (HRL.out r hrm)
          have HROK := Lib.hid hrok
          have HR0 := Lib.hid hr0
          have hrcap : rN r ≤ rC r := (sl_len hrok).2.1
          have hji : ((j : Nat) : Int) < ((pN o : Nat) : Int) := by omega
          clear hrow hrok hr0 hrm hre
          go_wp2_with fail
          obtain ⟨w2, hw2⟩ : ∃ w2, w2 = wr := ⟨_, rfl⟩
          subst hw2
          clear hrc
          generalize hRA : rA r = RA at HROK ⊢
          go_loopg [76] (rN r) (fun q i wi => ∃ (m : Nat) (zs : List Int), m ≤ rN r ∧ q = rN r - m ∧ i = .int .i64 (m : Nat) ∧ zs.length ≤ 88 + k * 4000 + j * 120 + m * 5 ∧ Hid (zs = ys ++ ((rP r).take m).flatMap placeB) ∧ Hid (Ext w wi) ∧ Hid (Pack.Writer wi (fun i => g ≤ i) g zs))
          case atStart => exact ⟨0, ys, Nat.zero_le _, rfl, rfl, by omega, Lib.hid (by simp), HX, HW⟩
          case round =>
            clear HX HW
            obtain ⟨m, zs, hm, rfl, rfl, hzl, HZS, HX, HW⟩ := hrel
            by_cases hlt4 : m < rN r
            · obtain ⟨ap, p, rfl, hp, hp0, hp1, _, _⟩ := place_at HROK.out hlt4
              have HPP := Lib.hid (HPE.out p (List.mem_of_getElem? hp))
              have d0 := HX.out.cell_ hp0
              have d1 := HX.out.cell_ hp1
              have HP := Lib.hid hp
              have hmi : ((m : Nat) : Int) < ((rN r : Nat) : Int) := by omega
              have hgs : g ≤ wr.heap.size := by rw [← hG]; exact HX.out.size
              clear hp hp0 hp1
              go_upto_region 15 with (refine RowSt.wpList_put 118 _ _ rfl rfl rfl wr.heap.size #[.int .i64 (node p), .int .u32 (gen p)] rfl rfl 118 _ (at_new wr _) (by kernel_rfl) rfl (by simp [Value.oneCell']) ?_; intro w9 hb9 hc9)
              have hE9 : Ext wr w9 := (Ext.new wr _).chg hc9 fun i hi => by have hi : i = wr.heap.size := hi; omega
              have hbx : wr.heap.size < w9.heap.size := Pack.lt_of_at hb9
              have HX9 := Lib.hid (HX.out.trans hE9)
              obtain ⟨f0, hf0⟩ : ∃ f0 : Nat → Prop, f0 = fun i => (g ≤ i ∧ i ≠ wr.heap.size) ∧ i < w9.heap.size := ⟨_, rfl⟩
              have hfw : Pack.Writer w9 f0 g zs := by
                have h1 : Pack.Writer wr f0 g zs := by rw [hf0]; exact writer_mono HW.out fun i hi k => ⟨⟨k, by omega⟩, by omega⟩
                exact h1.chg (S' := fun _ => False) (Below.chg hE9) (fun _ _ k => k)
              have hcellB : ∀ W, Chg f0 w9.drew W → W.heap[wr.heap.size]? = some (.cells #[.int .i64 (node p), .int .u32 (gen p)] 118 (0, 0)) := fun W hW => hW.at_ (i := wr.heap.size) (show w9.drew.heap[wr.heap.size]? = _ from hb9) (by rw [hf0]; exact fun k => k.1.2 rfl)
              have z0 : ∀ W, Chg f0 w9.drew W → W.cell? ⟨wr.heap.size, 0, none⟩ = some (.int .i64 (node p)) := fun W hW => blk_cell (i := 0) (hcellB W hW) (Ext.refl _) rfl
              have z1 : ∀ W, Chg f0 w9.drew W → W.cell? ⟨wr.heap.size, 1, none⟩ = some (.int .u32 (gen p)) := fun W hW => blk_cell (i := 1) (hcellB W hW) (Ext.refl _) rfl
              have W0 : IntKind.u64.wrap (node p) = node p := IntWalk.u64_in _ (by have := HPP.out; omega)
              have W1 : IntKind.u64.wrap (gen p) = gen p := IntWalk.u64_in _ (by have := HPP.out; omega)
              have HFW := Lib.hid hfw
              have HB0 : Hid (∀ i, f0 i → (fun i => g ≤ i ∧ i ≠ wr.heap.size) i ∧ i < w9.drew.heap.size) := Lib.hid (by rw [hf0]; exact fun i hi => hi)
              have HP0 : Hid (∀ W, Chg f0 w9.drew W → ∀ i, W.heap.size ≤ i → g ≤ i ∧ i ≠ wr.heap.size) := Lib.hid fun W hW i hi => by have h1 : w9.heap.size ≤ W.heap.size := hW.size; exact ⟨by omega, by omega⟩
              clear hfw hb9 hc9 hf0 d0 d1 hcellB hE9
              refine Lex.wp_region_rw [0, 1, 2, 3, 4, 5, 6, 7, 8] [] f0 9 (wrR (fun i => g ≤ i ∧ i ≠ wr.heap.size) g zs) (.pointer (some ⟨g, 0, none⟩)) [(4, 9), (8, 4)] [(4, wrR (fun i => g ≤ i ∧ i ≠ wr.heap.size) g (zs ++ Le.le 1 (node p))), (8, wrR (fun i => g ≤ i ∧ i ≠ wr.heap.size) g (zs ++ placeB p))] (by kernel_rfl) (by kernel_rfl) (by kernel_rfl) (by repeat (first | exact Lex.ok_nilR | refine Lex.ok_consR (by first | exact Lex.rowR_ok | exact Tbl.wrR_ok | exact Tbl.rdR_ok | assumption) ?_)) (by first | exact Tbl.wrR_ok | exact Lex.rowR_ok) ⟨Pack.Writer.chg HFW.out (S' := fun _ => False) (Chg.drew (Chg.refl _ _)) (fun _ _ k => k), HB0.out⟩ (fun i hi => (HB0.out i hi).2) ?_; simp only [Lex.pick, List.getElem?_cons_succ, List.getElem?_cons_zero, List.map_cons, List.map_nil]
              repeat (first | (refine Lex.lexR_skip (by rfl) ?_; simp only [Act.put, List.setIfInBounds_toArray, List.set_cons_zero, List.set_cons_succ]) | (refine Lex.lexR_still (by rfl) (by rfl) ?_; apply Exists.intro; refine ⟨fun W hW => ?_, ?_⟩; (have hE := hW; clear hW; go_simp; try with_reducible rfl); simp only [Act.put, List.setIfInBounds_toArray, List.set_cons_zero, List.set_cons_succ]))
              refine Lex.lexR_loose (by rfl) (by rfl) (fun W hW hAP => ?_) ?_
              · obtain ⟨hwr, hbb⟩ := (hW.2 9 (by kernel_rfl) rfl).2 rfl
                have hP := HP0.out W hW.1
                clear hW hAP
                go_simp
                exact wr_call hbb (fun i hi => ⟨9, by simp, .inr ⟨rfl, hi⟩⟩) hP (num_w hwr (by decide) (by decide) HPP.out.1 (by have := HPP.out; omega) (by omega) rfl)
              rintro v f1 rfl
              simp only [Act.put, List.setIfInBounds_toArray, List.set_cons_zero, List.set_cons_succ]
              repeat (first | (refine Lex.lexR_skip (by rfl) ?_; simp only [Act.put, List.setIfInBounds_toArray, List.set_cons_zero, List.set_cons_succ]) | (refine Lex.lexR_still (by rfl) (by rfl) ?_; apply Exists.intro; refine ⟨fun W hW => ?_, ?_⟩; (have hE := hW; clear hW; go_simp; try with_reducible rfl); simp only [Act.put, List.setIfInBounds_toArray, List.set_cons_zero, List.set_cons_succ]))
              refine Lex.lexR_loose (by rfl) (by rfl) (fun W hW hAP => ?_) ?_
              · obtain ⟨hwr, hbb⟩ := (hW.2 4 (by kernel_rfl) rfl).2 rfl
                have hP := HP0.out W hW.1
                clear hW hAP
                go_simp
                exact wr_call hbb (fun i hi => ⟨4, by simp, .inr ⟨rfl, hi⟩⟩) hP (num_w hwr (by decide) (by decide) HPP.out.2.2.1 (by have := HPP.out; omega) (by simp [Le.le_length]; omega) (by simp [placeB]))
              rintro v f2 rfl
              simp only [Act.put, List.setIfInBounds_toArray, List.set_cons_zero, List.set_cons_succ]
              repeat (first | (refine Lex.lexR_skip (by rfl) ?_; simp only [Act.put, List.setIfInBounds_toArray, List.set_cons_zero, List.set_cons_succ]) | (refine Lex.lexR_still (by rfl) (by rfl) ?_; apply Exists.intro; refine ⟨fun W hW => ?_, ?_⟩; (have hE := hW; clear hW; go_simp; try with_reducible rfl); simp only [Act.put, List.setIfInBounds_toArray, List.set_cons_zero, List.set_cons_succ]))
              refine Lex.lexR_nil (fun W hW hF => ?_)
              obtain ⟨hwr3, hbb3⟩ := (hF 8 rfl).2 rfl
              have HX4 : Hid (Ext w W) := Lib.hid (HX9.out.chg ((Chg.drew (Chg.refl _ _)).trans hW) fun i hi => by have := (HB0.out i hi).1.1; omega)
              have HW4 : Hid (Pack.Writer W (fun i => g ≤ i) g (zs ++ placeB p)) := Lib.hid (writer_mono hwr3 fun i _ hi => (hbb3 i hi).1.1)
              clear hW hF hwr3 hbb3 z0 z1 HFW HB0 HP0
              refine Lex.onlyN_intro ?_
              go_wp2_with fail
              go_roundg (rN r - (m + 1))
              case measure => omega
              case rel => exact ⟨m + 1, zs ++ placeB p, by omega, rfl, by first | rfl | go_num, by simp [placeB, Le.le_length]; omega, Lib.hid (by rw [HZS.out, List.take_add_one, HP.out]; simp), HX4, HW4⟩
            · obtain rfl : m = rN r := by omega
              have HZ2 : Hid (zs = X ++ ((rows o).take (j + 1)).flatMap rowB) := Lib.hid (by
                rw [HZS.out, HYS.out, List.take_of_length_le (l := rP r) (Nat.le_of_eq (sl_len HROK.out).1), List.take_add_one, HR0.out]
                simp [rowB])
              go_wp2_with fail
              go_roundg (pN o - (j + 1))
              case measure => omega
              case rel => exact ⟨j + 1, zs, by omega, rfl, by first | rfl | go_num, by omega, HZ2, HX, HW⟩
        · obtain rfl : j = pN o := by omega
          have HZ2 : Hid (ys = hdrB ⟨nx, ls, some ad, n, c, objs⟩ ++ (objs.take (k + 1)).flatMap wholeB) := Lib.hid (by
            rw [HYS.out, HXX.out, HXS.out, List.take_of_length_le (l := rows o) (Nat.le_of_eq HFO.out.rws.2), List.take_add_one, HOB.out]
            simp [wholeB, hdrB])
          go_wp2_with fail
          go_roundg (n - (k + 1))
          case measure => omega
          case rel => exact ⟨k + 1, ys, by omega, rfl, by first | rfl | go_num, by omega, HZ2, HX, HW⟩
    · obtain rfl : k = n := by omega
      have HZ2 : Hid (xs = tableB ⟨nx, ls, A, k, c, objs⟩) := Lib.hid (by
        rw [HXS.out, List.take_of_length_le (by rw [HL.out]; exact Nat.le_refl _)]
        rfl)
      go_wp2_with fail
      refine (Pack.bytes_calls (fun i => g ≤ i) g xs wr HW.out (by omega)).mono ?_
      rintro e w9 ⟨A9, c9, rfl, ho9, hb9⟩
      have HO9 := Lib.hid ho9
      have HB9 := Lib.hid hb9
      clear ho9 hb9
      go_wp2_with fail
      go_ret
      rw [← HZ2.out]
      exact ⟨HX.out.trans HB9.out, A9, c9, rfl, HO9.out.mono fun i _ hi => Nat.le_trans HX.out.size hi⟩
end Go.Proofs.Ytfhgjopoohfhjaa.Tbl
