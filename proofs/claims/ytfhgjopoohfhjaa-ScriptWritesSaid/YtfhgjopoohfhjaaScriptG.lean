/- A step written, walked. -/
import Derived.Test.YtfhgjopoohfhjaaScriptF
namespace Go.Proofs.Ytfhgjopoohfhjaa.Script
open Go.RowKit Base Step Vec
open ScriptP (L nm nameI kindOf Kind form formI digits digitsI numP numR chr cut St field write)
theorem digitsI_short {n : Int} (h : n ≤ 9223372036854775807) : (digitsI n).length ≤ 19 := by
  unfold digitsI
  split
  · simp
  · exact digits_short (by omega)
/-- The step's numbers are as Go holds them, its texts short. -/
structure Ok (s : St) : Prop where
  name : s.name.length ≤ 1000
  data : s.data.length ≤ 1000
  node0 : -9223372036854775808 ≤ s.node
  node1 : s.node ≤ 9223372036854775807
  a0 : -9223372036854775808 ≤ s.a
  a1 : s.a ≤ 9223372036854775807
  b0 : -9223372036854775808 ≤ s.b
  b1 : s.b ≤ 9223372036854775807
  bits0 : 0 ≤ s.bits
  bits1 : s.bits < 256
theorem Ok.field {s : St} (h : Ok s) (c : UInt8) : (field s c).length ≤ 1000 := by
  unfold ScriptP.field
  have := digitsI_short h.node1
  have := digitsI_short h.a1
  have := digitsI_short h.b1
  have := digitsI_short (n := s.bits) (by have := h.bits1; omega)
  repeat' split
  all_goals first | exact h.name | exact h.data | omega
/-- What is written behind j words of a form. -/
def wr1 (s : St) (f : L) (j : Nat) : L := nameI s.kind ++ (f.take j).flatMap fun c => 32 :: field s c
theorem wr1_zero (s : St) (f : L) : wr1 s f 0 = nameI s.kind := by simp [wr1]
theorem wr1_all (s : St) (f : L) : wr1 s f f.length = nameI s.kind ++ f.flatMap fun c => 32 :: field s c := by simp [wr1]
theorem wr1_more (s : St) (f : L) (j : Nat) (c : UInt8) (h : f[j]? = some c) : wr1 s f (j + 1) = wr1 s f j ++ [32] ++ field s c := by
  simp [wr1, List.take_add_one, h]
theorem name_short (k : Int) : (nameI k).length ≤ 6 := by
  unfold nameI
  split
  · have key : ∀ j : Fin 18, (nm j.val).length ≤ 6 := by decide
    exact key ⟨k.toNat, by omega⟩
  · simp
theorem wr1_short {s : St} (h : Ok s) (f : L) : ∀ j, (wr1 s f j).length ≤ 6 + 1001 * j := by
  intro j
  induction j with
  | zero => rw [wr1_zero]; have := name_short s.kind; omega
  | succ j ih =>
    cases hc : f[j]? with
    | none =>
      have : wr1 s f (j + 1) = wr1 s f j := by simp [wr1, List.take_add_one, hc]
      rw [this]; omega
    | some c =>
      rw [wr1_more s f j c hc]
      have := h.field c
      simp only [List.length_append, List.length_cons, List.length_nil]
      omega
theorem cells_app (a b : L) : Lib.byteCells a ++ Lib.byteCells b = Lib.byteCells (a ++ b) := by simp [Lib.byteCells]
theorem cells_S (l : L) : Lib.strCells (S l) = Lib.byteCells l := by simp [Lib.strCells, Lib.byteCells]
theorem cells_blank : [Value.int .u8 32] = Lib.byteCells [32] := rfl
theorem nums_ints (l : L) : nums .u8 (ints l) = Lib.byteCells l := by simp [nums, ints, Lib.byteCells]
/-- A step in block gx, a form's letters in block q, a builder in block gb: in the midst of writing. -/
structure Wri (w0 w : World) (gx gb q : Nat) (s : St) (D : Option Addr) (n c : Nat) (f l : L) : Prop where
  step : w.heap[gx]? = some (.cells (cellsV s D n c) 46 (0, 0))
  form : Rd w .u8 (some ⟨q, 0, none⟩) f.length (ints f)
  data : Rd w0 .u8 D n (ints s.data)
  ext : Ext w0 w
  bld : Bld (fun i => gx < i ∧ i ≠ q) gb (Lib.byteCells l) w
  x0 : w0.heap.size = gx
  qq : q < w.heap.size
theorem Wri.ext_ {w0 w w' : World} {gx gb q n c : Nat} {s : St} {D : Option Addr} {f l : L} (h : Wri w0 w gx gb q s D n c f l) (he : Ext w w') : Wri w0 w' gx gb q s D n c f l :=
  ⟨he.at_ h.step, h.form.ext he, h.data, h.ext.trans he, h.bld.ext he, h.x0, he.lt h.qq⟩
theorem Wri.chg {w0 w w' : World} {gx gb q n c : Nat} {s : St} {D : Option Addr} {f l l' : L} (h : Wri w0 w gx gb q s D n c f l) (hb : Bld (fun i => gx < i ∧ i ≠ q) gb (Lib.byteCells l') w') (hc : Chg (fun i => gx < i ∧ i ≠ q) w w') : Wri w0 w' gx gb q s D n c f l' :=
  ⟨hc.at_ h.step (by omega), h.form.chg hc fun ad e _ => by cases e; exact fun h => h.2 rfl, h.data, h.ext.chg hc fun i hi => by rw [h.x0]; omega, hb, h.x0, Nat.lt_of_lt_of_le h.qq hc.size⟩
theorem Wri.dat {w0 w : World} {gx gb q n c : Nat} {s : St} {D : Option Addr} {f l : L} (h : Wri w0 w gx gb q s D n c f l) : Rd w .u8 D n (ints s.data) := h.data.ext h.ext
theorem Wri.all {w0 w : World} {gx gb q n c : Nat} {s : St} {D : Option Addr} {f l : L} (h : Wri w0 w gx gb q s D n c f l) : ∀ i, w.heap.size ≤ i → gx < i ∧ i ≠ q := fun i hi => by
  have := h.qq
  have := (Array.getElem?_eq_some_iff.1 h.step).1
  omega
section
variable {w0 w : World} {gx gb q n c : Nat} {s : St} {D : Option Addr} {f l : L}
theorem Wri.text (h : Wri w0 w gx gb q s D n c f l) (t : L) (hlen : l.length + t.length ≤ 100000) :
    Calls Try.prog 160 #[.pointer (some ⟨gb, 0, none⟩), .string (S t)] w fun e w' => e = .returned (.tuple #[.int .i64 (S t).size, .nilIface]) ∧ Wri w0 w' gx gb q s D n c f (l ++ t) := by
  refine (writeString_calls _ gb _ (S t) w h.bld (by rw [Lib.byteCells_length]; simp [ByteArray.size]; omega) h.all).mono ?_
  rintro e w' ⟨rfl, hb, hc⟩
  rw [cells_S, cells_app] at hb
  exact ⟨rfl, h.chg hb hc⟩
theorem Wri.blank (h : Wri w0 w gx gb q s D n c f l) (hlen : l.length ≤ 100000) :
    Calls Try.prog 161 #[.pointer (some ⟨gb, 0, none⟩), .int .u8 32] w fun e w' => e = .returned .nilIface ∧ Wri w0 w' gx gb q s D n c f (l ++ [32]) := by
  refine (writeByte_calls _ gb _ 32 w h.bld (by rw [Lib.byteCells_length]; omega) h.all).mono ?_
  rintro e w' ⟨rfl, hb, hc⟩
  rw [cells_blank, cells_app] at hb
  exact ⟨rfl, h.chg hb hc⟩
theorem Wri.bytes (h : Wri w0 w gx gb q s D n c f l) (hlen : l.length + s.data.length ≤ 100000) :
    Calls Try.prog 162 #[.pointer (some ⟨gb, 0, none⟩), .slice D n c] w fun e w' => e = .returned (.tuple #[.int .i64 n, .nilIface]) ∧ Wri w0 w' gx gb q s D n c f (l ++ s.data) := by
  have hd := h.dat
  have hn : s.data.length = n := by have := hd.len; simpa [ints] using this
  refine (writeBytes_calls _ gb _ D n c (Lib.byteCells s.data) w h.bld (by rw [Lib.byteCells_length, hn]) ?_ ?_ ?_ ?_ (by rw [Lib.byteCells_length]; omega) h.all).mono ?_
  · rintro rfl
    rcases Nat.eq_zero_or_pos n with h0 | h0
    · exact h0
    · obtain ⟨ad, e, _⟩ := hd.cell h0
      cases e
  · intro ad e j u hu
    have hj : j < n := by have := (List.getElem?_eq_some_iff.1 hu).1; rw [Lib.byteCells_length] at this; omega
    obtain ⟨ad', e', hcell⟩ := hd.cell (by omega)
    rw [e] at e'
    cases e'
    rw [hcell j hj]
    simp only [Lib.byteCells, ints, List.getElem?_map, List.getD_eq_getElem?_getD] at hu ⊢
    rw [List.getElem?_eq_getElem (by omega)] at hu ⊢
    simpa using hu
  · intro ad e hn0
    subst e
    have := h.data.lt hn0
    rw [h.x0] at this
    omega
  · intro u hu
    obtain ⟨x, _, rfl⟩ := List.mem_map.1 hu
    rfl
  · rintro e w' ⟨rfl, hb, hc⟩
    rw [cells_app] at hb
    exact ⟨rfl, h.chg hb hc⟩
theorem Wri.str (h : Wri w0 w gx gb q s D n c f l) : Calls Try.prog 163 #[.pointer (some ⟨gb, 0, none⟩)] w fun e w' => e = .returned (.string (S l)) ∧ Ext w0 w' := by
  have := h.ext.size
  refine (Shelf.string_calls w0.heap.size gb l w (h.bld.is_ fun i hi => by rw [h.x0]; omega) this).mono ?_
  rintro e w' ⟨rfl, hb⟩
  exact ⟨rfl, Below.trans h.ext hb⟩
end
theorem form_short (k : Int) : (formI k).length ≤ 4 := by
  unfold formI
  split
  · have key : ∀ j : Fin 18, (form j.val).length ≤ 4 := by decide
    exact key ⟨k.toNat, by omega⟩
  · simp
theorem formI_letters (k : Int) : ∀ c ∈ formI k, c = 110 ∨ c = 100 ∨ c = 119 ∨ c = 97 ∨ c = 98 ∨ c = 120 := by
  unfold formI
  split
  · exact form_letters ⟨k.toNat, by omega⟩
  · intro c hc; cases hc
theorem run_bytes2 (W : World) (r : L) (hs : r.length ≤ 140737488351232) : ∃ c W', (convert 9 22 (.string (S r))).run Try.prog W = .ok (.slice (some ⟨W.heap.size, 0, none⟩) r.length c) W' ∧ Ext W W' ∧ Rd W' .u8 (some ⟨W.heap.size, 0, none⟩) r.length (ints r) ∧ W.heap.size < W'.heap.size := by
  have hsz : (S r).size = r.length := by simp [ByteArray.size]
  have h := run_bytes_of_string (P := Try.prog) W 9 22 5 (S r) Try.underlying9 Try.underlying22 Try.underlying5
  rw [hsz] at h
  obtain ⟨c, W', h1, h2, h3, _⟩ := run_bytes W r hs
  rw [h] at h1
  refine ⟨c, W', by rw [h]; exact h1, h2, h3, ?_⟩
  cases h1
  simp
set_option maxRecDepth 100000 in
set_option maxHeartbeats 6000000 in
theorem write_calls (s : St) (D : Option Addr) (n c : Nat) (w : World) (hs : Ok s) (hd : Rd w .u8 D n (ints s.data)) :
    Calls Try.prog 113 #[stV s D n c] w fun e w' => e = .returned (.string (S (write s))) ∧ Ext w w' := by
  have hx1 := at_new w (.cells (cellsV s D n c) 46)
  have hE1 := Ext.new w (.cells (cellsV s D n c) 46)
  have hB2 : Bld (fun i => w.heap.size < i) (w.heap.size + 1) [] ((w.alloc (.cells (cellsV s D n c) 46)).alloc (.cells #[.pointer none, .slice none 0 0] 251)) := by
    have h := bld_new (fun i => w.heap.size < i) (w.alloc (.cells (cellsV s D n c) 46)) (by simp)
    rw [show (w.alloc (.cells (cellsV s D n c) 46)).heap.size = w.heap.size + 1 by simp] at h
    exact h
  have hE2 := hE1.alloc (.cells #[.pointer none, .slice none 0 0] 251)
  have hx2 := (Ext.new (w.alloc (.cells (cellsV s D n c) 46)) (.cells #[.pointer none, .slice none 0 0] 251)).at_ hx1
  have c0 := blk_cell (i := 0) hx2 (Ext.refl _) rfl
  have HB2 := Lib.hid hB2
  have HE2 := Lib.hid hE2
  have HX2 := Lib.hid hx2
  have hfl := form_short s.kind
  have hlet := formI_letters s.kind
  have hns := name_short s.kind
  have HD := Lib.hid hd
  have hwa : wr1 s (formI s.kind) (formI s.kind).length = write s := wr1_all _ _
  have hw0 := wr1_zero s (formI s.kind)
  clear hx1 hE1 hB2 hE2 hx2 hd
  dsimp only [stV, cellsV]
  go_enter Try.func113, Try.ntmps113
  go_wp2_with fail
  refine (name_calls s.kind _).mono ?_
  rintro e w2 ⟨rfl, he2⟩
  have HB := Lib.hid (HB2.out.ext he2)
  have HX := Lib.hid (he2.at_ HX2.out)
  have HE := Lib.hid (HE2.out.trans he2)
  clear c0 HB2 HX2 HE2 he2
  have HALL : Hid (∀ i, w2.heap.size ≤ i → w.heap.size < i) := Lib.hid fun i hi => by
    have := (Array.getElem?_eq_some_iff.1 HX.out).1; omega
  obtain ⟨nm0, hnm⟩ : ∃ x, nameI s.kind = x := ⟨_, rfl⟩
  rw [hnm] at hns hw0 ⊢
  go_wp2_with fail
  refine (writeString_calls _ _ _ (S nm0) _ HB.out (by simp [ByteArray.size]; omega) HALL.out).mono ?_
  rintro e w3 ⟨rfl, hb3, hc3⟩
  rw [cells_S, List.nil_append] at hb3
  have hx3 := hc3.at_ HX.out (by simp)
  have he3 : Ext w w3 := HE.out.chg hc3 fun i hi => by omega
  have c0 := blk_cell (i := 0) hx3 (Ext.refl _) rfl
  have HX3 := Lib.hid hx3
  have HE3 := Lib.hid he3
  have HB3 := Lib.hid hb3
  clear HB HX HE HALL hc3 hx3 he3 hb3
  go_wp2_with fail
  refine (form_calls s.kind _).mono ?_
  rintro e w' ⟨rfl, rfl⟩
  clear c0
  obtain ⟨f, hf⟩ : ∃ x, formI s.kind = x := ⟨_, rfl⟩
  rw [hf] at hfl hlet hwa hw0 ⊢
  have HWA := Lib.hid hwa
  have HLET := Lib.hid hlet
  clear hwa hlet hnm hf
  subst hw0
  obtain ⟨c9, w9, hrun9, he9, hr9, hq9⟩ := run_bytes2 w3 f (by omega)
  have HPW : Hid (Wri w w9 w.heap.size (w.heap.size + 1) w3.heap.size s D n c f (wr1 s f 0)) := Lib.hid ⟨he9.at_ HX3.out, hr9, HD.out, HE3.out.trans he9, (HB3.out.mono fun i h1 h2 => ⟨h2, by omega⟩).ext he9, rfl, hq9⟩
  clear HX3 HE3 HB3 he9
  have HR9 := Lib.hid hr9
  clear hr9
  go_wp2_with (refine wpList_conv 9 22 _ _ rfl rfl rfl hrun9 ?_)
  clear HR9 hrun9 hq9
  have HLEN : Hid (∀ j, (wr1 s f j).length ≤ 6 + 1001 * j) := Lib.hid (wr1_short hs f)
  generalize w3.heap.size = q at *
  generalize w.heap.size = gx at *
  go_loopw [5, 15] (fun _ i wr => ∃ (j : Nat), i = .int .i64 j ∧ j ≤ f.length ∧ Hid (Wri w wr gx (gx + 1) q s D n c f (wr1 s f j))) (fun _ i _ => f.length - (intOf i).toNat)
  case atStart => exact ⟨0, rfl, Nat.zero_le _, HPW⟩
  case round =>
    clear HPW
    obtain ⟨j, rfl, hj, HPW⟩ := hrel
    by_cases hlt : j < f.length
    · obtain ⟨k, hk⟩ : ∃ k, f[j]? = some k := ⟨_, List.getElem?_eq_getElem hlt⟩
      have hkf := HLET.out k (List.mem_of_getElem? hk)
      have cj : wr.cell? ⟨q, j, none⟩ = some (.int .u8 (k.toNat : Nat)) := by
        obtain ⟨ad, e, hcell⟩ := HPW.out.form.cell (by omega)
        cases e
        have := hcell j hlt
        rw [show (⟨q, 0, none⟩ : Addr).add j = ⟨q, j, none⟩ by simp [Addr.add]; omega] at this
        rw [this]
        simp [ints, List.getD_eq_getElem?_getD, hk]
      rcases hkf with rfl | rfl | rfl | rfl | rfl | rfl
      · have HMORE := Lib.hid (wr1_more s f j _ hk)
        have hlw := HLEN.out j
        go_wp2_with fail
        refine (HPW.out.blank (by omega)).mono ?_
        rintro e w1 ⟨rfl, hw1⟩
        have HW1 := Lib.hid hw1
        have cc := blk_cell (i := 1) hw1.step (Ext.refl _) rfl
        clear hw1 HPW cj
        go_wp2_with fail
        have hfd := hs.name
        refine (HW1.out.text s.name (by simp only [List.length_append, List.length_cons, List.length_nil]; omega)).mono ?_
        rintro e w3 ⟨rfl, hw3⟩
        have HW3 : Hid (Wri w w3 gx (gx + 1) q s D n c f (wr1 s f (j + 1))) := Lib.hid (by rw [HMORE.out]; exact hw3)
        clear hw3 cc
        go_wp2_with fail
        go_roundw
        case rel => exact ⟨j + 1, by go_num, by omega, HW3⟩
        case measure => simp [intOf]; omega
      · have HMORE := Lib.hid (wr1_more s f j _ hk)
        have hlw := HLEN.out j
        go_wp2_with fail
        refine (HPW.out.blank (by omega)).mono ?_
        rintro e w1 ⟨rfl, hw1⟩
        have HW1 := Lib.hid hw1
        have cc := blk_cell (i := 2) hw1.step (Ext.refl _) rfl
        clear hw1 HPW cj
        go_wp2_with fail
        have hfd := hs.data
        refine (HW1.out.bytes (by simp only [List.length_append, List.length_cons, List.length_nil]; omega)).mono ?_
        rintro e w3 ⟨rfl, hw3⟩
        have HW3 : Hid (Wri w w3 gx (gx + 1) q s D n c f (wr1 s f (j + 1))) := Lib.hid (by rw [HMORE.out]; exact hw3)
        clear hw3 cc
        go_wp2_with fail
        go_roundw
        case rel => exact ⟨j + 1, by go_num, by omega, HW3⟩
        case measure => simp [intOf]; omega
      · have HMORE := Lib.hid (wr1_more s f j _ hk)
        have hlw := HLEN.out j
        go_wp2_with fail
        refine (HPW.out.blank (by omega)).mono ?_
        rintro e w1 ⟨rfl, hw1⟩
        have HW1 := Lib.hid hw1
        have cc := blk_cell (i := 3) hw1.step (Ext.refl _) rfl
        clear hw1 HPW cj
        go_wp2_with fail
        refine (digits_calls s.node _ hs.node0 hs.node1).mono ?_
        rintro e w2 ⟨rfl, he2⟩
        have HW2 := Lib.hid (HW1.out.ext_ he2)
        have hfd : (digitsI s.node).length ≤ 19 := digitsI_short hs.node1
        clear he2 cc HW1
        go_wp2_with fail
        refine (HW2.out.text (digitsI s.node) (by simp only [List.length_append, List.length_cons, List.length_nil]; omega)).mono ?_
        rintro e w3 ⟨rfl, hw3⟩
        have HW3 : Hid (Wri w w3 gx (gx + 1) q s D n c f (wr1 s f (j + 1))) := Lib.hid (by rw [HMORE.out]; exact hw3)
        clear hw3
        go_wp2_with fail
        go_roundw
        case rel => exact ⟨j + 1, by go_num, by omega, HW3⟩
        case measure => simp [intOf]; omega
      · have HMORE := Lib.hid (wr1_more s f j _ hk)
        have hlw := HLEN.out j
        go_wp2_with fail
        refine (HPW.out.blank (by omega)).mono ?_
        rintro e w1 ⟨rfl, hw1⟩
        have HW1 := Lib.hid hw1
        have cc := blk_cell (i := 4) hw1.step (Ext.refl _) rfl
        clear hw1 HPW cj
        go_wp2_with fail
        refine (digits_calls s.a _ hs.a0 hs.a1).mono ?_
        rintro e w2 ⟨rfl, he2⟩
        have HW2 := Lib.hid (HW1.out.ext_ he2)
        have hfd : (digitsI s.a).length ≤ 19 := digitsI_short hs.a1
        clear he2 cc HW1
        go_wp2_with fail
        refine (HW2.out.text (digitsI s.a) (by simp only [List.length_append, List.length_cons, List.length_nil]; omega)).mono ?_
        rintro e w3 ⟨rfl, hw3⟩
        have HW3 : Hid (Wri w w3 gx (gx + 1) q s D n c f (wr1 s f (j + 1))) := Lib.hid (by rw [HMORE.out]; exact hw3)
        clear hw3
        go_wp2_with fail
        go_roundw
        case rel => exact ⟨j + 1, by go_num, by omega, HW3⟩
        case measure => simp [intOf]; omega
      · have HMORE := Lib.hid (wr1_more s f j _ hk)
        have hlw := HLEN.out j
        go_wp2_with fail
        refine (HPW.out.blank (by omega)).mono ?_
        rintro e w1 ⟨rfl, hw1⟩
        have HW1 := Lib.hid hw1
        have cc := blk_cell (i := 5) hw1.step (Ext.refl _) rfl
        clear hw1 HPW cj
        go_wp2_with fail
        refine (digits_calls s.b _ hs.b0 hs.b1).mono ?_
        rintro e w2 ⟨rfl, he2⟩
        have HW2 := Lib.hid (HW1.out.ext_ he2)
        have hfd : (digitsI s.b).length ≤ 19 := digitsI_short hs.b1
        clear he2 cc HW1
        go_wp2_with fail
        refine (HW2.out.text (digitsI s.b) (by simp only [List.length_append, List.length_cons, List.length_nil]; omega)).mono ?_
        rintro e w3 ⟨rfl, hw3⟩
        have HW3 : Hid (Wri w w3 gx (gx + 1) q s D n c f (wr1 s f (j + 1))) := Lib.hid (by rw [HMORE.out]; exact hw3)
        clear hw3
        go_wp2_with fail
        go_roundw
        case rel => exact ⟨j + 1, by go_num, by omega, HW3⟩
        case measure => simp [intOf]; omega
      · have HMORE := Lib.hid (wr1_more s f j _ hk)
        have hlw := HLEN.out j
        go_wp2_with fail
        refine (HPW.out.blank (by omega)).mono ?_
        rintro e w1 ⟨rfl, hw1⟩
        have HW1 := Lib.hid hw1
        have cc := blk_cell (i := 6) hw1.step (Ext.refl _) rfl
        clear hw1 HPW cj
        have hb0 := hs.bits0
        have hb1 := hs.bits1
        have hbw : IntKind.i64.wrap s.bits = s.bits := IntWalk.i64_in _ (by omega)
        go_wp2_with fail
        refine (digits_calls s.bits _ (by have := hs.bits0; omega) (by have := hs.bits1; omega)).mono ?_
        rintro e w2 ⟨rfl, he2⟩
        have HW2 := Lib.hid (HW1.out.ext_ he2)
        have hfd : (digitsI s.bits).length ≤ 19 := digitsI_short (by have := hs.bits1; omega)
        clear he2 cc HW1
        go_wp2_with fail
        refine (HW2.out.text (digitsI s.bits) (by simp only [List.length_append, List.length_cons, List.length_nil]; omega)).mono ?_
        rintro e w3 ⟨rfl, hw3⟩
        have HW3 : Hid (Wri w w3 gx (gx + 1) q s D n c f (wr1 s f (j + 1))) := Lib.hid (by rw [HMORE.out]; exact hw3)
        clear hw3
        go_wp2_with fail
        go_roundw
        case rel => exact ⟨j + 1, by go_num, by omega, HW3⟩
        case measure => simp [intOf]; omega
    · obtain rfl : j = f.length := by omega
      go_wp2_with fail
      refine (HPW.out.str).mono ?_
      rintro e w8 ⟨rfl, he8⟩
      rw [HWA.out]
      go_wp2_with fail
      go_ret
      exact ⟨rfl, he8⟩
end Go.Proofs.Ytfhgjopoohfhjaa.Script
