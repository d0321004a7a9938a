import Derived.Test.YtipmkddcdnbihaaProg
import Derived.Test.YtipmkddcdnbihaaLe
import Derived.Test.YtipmkddcdnbihaaBase
import Derived.WalkKit
import Derived.KernelRfl
import Derived.Lib.Hide
namespace Go.Proofs.Ytipmkddcdnbihaa.Pack
open Go.RowKit Base

theorem info_u8 : (Try.prog.info? 5).map (fun i => (i.zero, i.size, i.bytes)) = some (some (.int .u8 0), 1, 1) := by kernel_rfl

/-- A writer at block g that has gathered xs, all of it in blocks of S. -/
structure WriterIs (w : World) (S : Nat → Prop) (g : Nat) (A : Option Addr) (n c : Nat) (xs : List Int) : Prop where
  at_ : w.heap[g]? = some (.cells #[.slice A n c] 190 (0, 0))
  own : Own w S 5 1 (.slice A n c) n (nums .u8 xs)
  foot : S g
  wf : ∀ x ∈ xs, (Lit.int .u8 x).wf = true
def Writer (w : World) (S : Nat → Prop) (g : Nat) (xs : List Int) : Prop := ∃ A n c, WriterIs w S g A n c xs
theorem cell_of {w : World} {g : Nat} {v : Value} {T : TypeId} {fr : Nat × Nat} (h : w.heap[g]? = some (.cells #[v] T fr)) : w.cell? ⟨g, 0, none⟩ = some v := by simp [World.cell?, h]
theorem free_of {w : World} {g : Nat} {C : Array Value} {T : TypeId} (h : w.heap[g]? = some (.cells C T (0, 0))) (j : Nat) : w.frozen? ⟨g, j, none⟩ = false := by simp [World.frozen?, h]
theorem lt_of_at {w : World} {g : Nat} {o : Obj} (h : w.heap[g]? = some o) : g < w.heap.size := (Array.getElem?_eq_some_iff.1 h).1
theorem setCell_at {w : World} {g : Nat} {v u : Value} {T : TypeId} {fr : Nat × Nat} (h : w.heap[g]? = some (.cells #[v] T fr)) : (w.setCell ⟨g, 0, none⟩ u).heap[g]? = some (.cells #[u] T fr) := by
  simp [World.setCell, Array.getElem?_modify, h]
theorem WriterIs.chg {w w' : World} {S S' : Nat → Prop} {g : Nat} {A : Option Addr} {n c : Nat} {xs : List Int} (h : WriterIs w S g A n c xs) (hg : Chg S' w w') (hd : ∀ i, S i → ¬ S' i) : WriterIs w' S g A n c xs :=
  ⟨hg.at_ h.at_ (hd _ h.foot), h.own.chg hg hd, h.foot, h.wf⟩
theorem WriterIs.put {w : World} {S : Nat → Prop} {g : Nat} {v : Value} {A : Option Addr} {n c : Nat} {xs : List Int} (hb : w.heap[g]? = some (.cells #[v] 190 (0, 0))) (ho : Own w S 5 1 (.slice A n c) n (nums .u8 xs)) (hS : S g) (hw : ∀ x ∈ xs, (Lit.int .u8 x).wf = true) :
    WriterIs (w.setCell ⟨g, 0, none⟩ (.slice A n c)) S g A n c xs :=
  ⟨setCell_at hb, ho.keep fun i hi => Below.heap_setCell _ _ _ _ fun e => ho.ne hb (by decide) (by rw [hi, e]), hS, hw⟩

set_option maxHeartbeats 400000 in
set_option maxRecDepth 100000 in
theorem num_calls (S : Nat → Prop) (g : Nat) (xs : List Int) (n : Int) (size : Int) (w : World) (hS : ∀ i, w.heap.size ≤ i → S i) (hw : Writer w S g xs) (h0 : 0 ≤ size) (h8 : size ≤ 8) (hn0 : 0 ≤ n) (hn1 : n < 18446744073709551616)
    (hx : xs.length ≤ 1099511627776) :
    Calls Try.prog 99 #[.pointer (some ⟨g, 0, none⟩), .int .u64 n, .int .i64 size] w fun e w' => e = .returned (.pointer (some ⟨g, 0, none⟩)) ∧ Writer w' S g (xs ++ Le.le size.toNat n) ∧ Chg S w w' := by
  have HS := Lib.hid hS
  have HW := Lib.hid hw
  clear hw hS
  go_enter Try.func99, Try.ntmps99
  go_wp2
  go_loopw [1, 10] (fun m i wr => ∃ k : Nat, (k : Int) ≤ size ∧ i = .int .i64 k ∧ m = .int .u64 (n / 256 ^ k) ∧ Hid (Writer wr S g (xs ++ Le.le k n)) ∧ Hid (Chg S w wr)) (fun _ i _ => size.toNat - (intOf i).toNat)
  case atStart => exact ⟨0, h0, rfl, by simp, Lib.hid (by simpa [Le.le] using HW.out), Lib.hid (Chg.refl _ _)⟩
  case round =>
    obtain ⟨k, hk, rfl, rfl, HV, HC⟩ := hrel
    obtain ⟨A1, n1, c1, hv1⟩ := HV.out
    have hcell := cell_of hv1.at_
    have hfree := free_of hv1.at_ 0
    have HV1 := Lib.hid hv1
    have hn1' : n1 ≤ 1099511627784 := by have := hv1.own.row.1; simp [nums, Le.le_length] at this; omega
    clear hv1 HV
    have hq0 : 0 ≤ n / 256 ^ k := Int.ediv_nonneg hn0 (Int.pow_nonneg (by omega))
    have hq1 : n / 256 ^ k < 18446744073709551616 := Int.lt_of_le_of_lt (Int.ediv_le_self _ hn0) hn1
    by_cases hlt : (k : Int) < size
    · go_wp2_with (at_builtin; refine wpList_app1 _ rfl (.tmp 16) (.tmp 19) 55 rfl S 5 .u8 1 Try.underlying55 info_u8 (by decide) (.slice A1 n1 c1) _ (xs ++ Le.le k n) rfl HV1.out.own _ rfl ?c1 ?c2 ?c3 ?_)
      case c1 => exact u8_wf (by omega) (by omega)
      case c2 => omega
      case c3 => exact fun i hi => HS.out i (Nat.le_trans HC.out.size hi)
      intro A2 c2 w2 ho2 hc2
      have hb2 := hc2.at_ HV1.out.at_ (HV1.out.own.ne HV1.out.at_ (by decide))
      have HO2 := Lib.hid ho2
      have HC2 := Lib.hid hc2
      have HB2 := Lib.hid hb2
      have hcell2 := cell_of hb2
      have hfree2 := free_of hb2 0
      clear ho2 hc2 hb2
      have hs1 : xs ++ Le.le k n ++ [n / 256 ^ k % 256] = xs ++ Le.le (k + 1) n := by rw [Le.le_snoc, List.append_assoc]
      have HS1 := Lib.hid hs1
      clear hs1
      have hd1 : n / 256 ^ k / 256 = n / 256 ^ (k + 1) := by rw [Int.ediv_ediv_of_nonneg (Int.pow_nonneg (by omega)), Int.pow_succ]
      have HD1 := Lib.hid hd1
      clear hd1
      go_wp2
      go_roundw
      case rel =>
        refine ⟨k + 1, by omega, by go_num, by rw [HD1.out], Lib.hid ⟨A2, n1 + 1, c2, ?_⟩, Lib.hid ((HC.out.step HC2.out fun i _ h => HV1.out.own.foot i h).setCell (p := ⟨g, 0, none⟩) HV1.out.foot _)⟩
        rw [← HS1.out]
        exact WriterIs.put HB2.out (by rw [List.append_assoc]; exact HO2.out) HV1.out.foot (wf_append HV1.out.wf (by intro x hx; rw [List.mem_singleton.1 hx]; exact u8_wf (by omega) (by omega)))
      case measure => simp [intOf]; omega
    · go_wp2
      go_ret
      obtain rfl : (k : Int) = size := by omega
      exact ⟨rfl, by simpa using ⟨_, _, _, HV1.out⟩, HC.out⟩

set_option maxHeartbeats 400000 in
set_option maxRecDepth 100000 in
theorem wraw_calls (S : Nat → Prop) (g : Nat) (xs : List Int) (B : Option Addr) (m cb : Nat) (ys : List Int) (w : World) (hS : ∀ i, w.heap.size ≤ i → S i) (hw : Writer w S g xs) (hr : Rd w .u8 B m ys)
    (hx : xs.length ≤ 1099511627776) (hm : m ≤ 1099511627776) :
    Calls Try.prog 173 #[.pointer (some ⟨g, 0, none⟩), .slice B m cb] w fun e w' => e = .returned (.pointer (some ⟨g, 0, none⟩)) ∧ Writer w' S g (xs ++ ys) ∧ Chg S w w' := by
  have HS := Lib.hid hS
  have HR := Lib.hid hr
  obtain ⟨A1, n1, c1, hv1⟩ := hw
  have hcell := cell_of hv1.at_
  have hfree := free_of hv1.at_ 0
  have HV1 := Lib.hid hv1
  have hn1' : n1 ≤ 1099511627784 := by have := hv1.own.row.1; simp [nums] at this; omega
  clear hv1 hS hr
  go_enter Try.func173, Try.ntmps173
  go_wp2_with (at_builtin; refine wpList_app _ rfl (.tmp 9) (.tmp 10) 55 rfl S 5 .u8 1 Try.underlying55 info_u8 (by decide) (.slice A1 n1 c1) _ xs rfl HV1.out.own B m cb ys rfl HR.out ?c2 HS.out ?_)
  case c2 => omega
  intro A2 c2 w2 ho2 hc2
  have hb2 := hc2.at_ HV1.out.at_ (HV1.out.own.ne HV1.out.at_ (by decide))
  have HO2 := Lib.hid ho2
  have HC2 := Lib.hid hc2
  have HB2 := Lib.hid hb2
  have hcell2 := cell_of hb2
  have hfree2 := free_of hb2 0
  clear ho2 hc2 hb2
  go_wp2
  go_ret
  exact ⟨rfl, ⟨A2, n1 + m, c2, WriterIs.put HB2.out HO2.out HV1.out.foot (wf_append HV1.out.wf HR.out.wf)⟩, (HC2.out.mono fun i _ h => HV1.out.own.foot i h).setCell (p := ⟨g, 0, none⟩) HV1.out.foot _⟩

set_option maxHeartbeats 400000 in
set_option maxRecDepth 100000 in
theorem bytes_calls (S : Nat → Prop) (g : Nat) (xs : List Int) (w : World) (hw : Writer w S g xs) (hx : xs.length ≤ 1099511627776) :
    Calls Try.prog 101 #[.pointer (some ⟨g, 0, none⟩)] w fun e w' => ∃ A c, e = .returned (.slice A xs.length c) ∧ Own w' (fun i => w.heap.size ≤ i) 5 1 (.slice A xs.length c) xs.length (nums .u8 xs) ∧ Below w.heap.size w w' := by
  obtain ⟨A1, n1, c1, hv1⟩ := hw
  have hcell := cell_of hv1.at_
  have hlt : g < w.heap.size := lt_of_at hv1.at_
  have hfree := free_of hv1.at_ 0
  have HV1 := Lib.hid hv1
  have hn1' : n1 ≤ 1099511627784 := by have := hv1.own.row.1; simp [nums] at this; omega
  have hr := hv1.own.rd hv1.wf
  have HRA := Lib.hid (hr.below ((Below.refl _ _).alloc (Nat.le_refl _) (.cells #[] 5)))
  have hl := hr.len
  obtain rfl : xs.length = n1 := hl
  have hsz : (w.alloc (.cells #[] 5)).heap.size = w.heap.size + 1 := by simp
  have HSZ := Lib.hid hsz
  clear hr hsz hv1
  go_enter Try.func101, Try.ntmps101
  go_wp2_with (at_builtin; refine wpList_app _ rfl (.tmp 3) (.tmp 7) 55 rfl (fun i => w.heap.size ≤ i) 5 .u8 1 Try.underlying55 info_u8 (by decide) (.slice (some ⟨w.heap.size, 0, none⟩) 0 0) 0 [] rfl ?c1 A1 _ c1 xs rfl HRA.out ?c2 ?c3 ?_)
  case c1 => exact ⟨World.ownsRow_lit w #[] 0 (Nat.zero_le _) (by simp only [maxLen]; omega) rfl, by simp [Value.ownBlock]⟩
  case c2 => omega
  case c3 => intro i hi; have := HSZ.out; omega
  intro A2 c2 w2 ho2 hc2
  have HO2 := Lib.hid ho2
  have HC2 := Lib.hid hc2
  clear ho2 hc2
  go_wp2
  go_ret
  refine ⟨A2, c2, rfl, by simpa using HO2.out, ?_⟩
  exact Chg.below (((Chg.refl _ _).alloc _).step HC2.out fun i hi h => by simp [Value.ownBlock] at h; omega)

/-- A reader at block g that has xs before it. -/
structure ReaderIs (w : World) (g : Nat) (A : Option Addr) (n c : Nat) (xs : List Int) (torn : Bool) : Prop where
  at_ : w.heap[g]? = some (.cells #[.slice A n c, .bool torn] 323 (0, 0))
  rd : Rd w .u8 A n xs
  room : n ≤ c
  none : A = none → c = 0
def Reader (w : World) (g : Nat) (xs : List Int) (torn : Bool) : Prop := ∃ A n c, ReaderIs w g A n c xs torn
theorem cell0_of {w : World} {g : Nat} {v u : Value} {T : TypeId} {fr : Nat × Nat} (h : w.heap[g]? = some (.cells #[v, u] T fr)) : w.cell? ⟨g, 0, Option.none⟩ = some v := by simp [World.cell?, h]
theorem cell1_of {w : World} {g : Nat} {v u : Value} {T : TypeId} {fr : Nat × Nat} (h : w.heap[g]? = some (.cells #[v, u] T fr)) : w.cell? ⟨g, 1, Option.none⟩ = some u := by simp [World.cell?, h]
theorem setCell_at0 {w : World} {g : Nat} {v v2 u : Value} {T : TypeId} {fr : Nat × Nat} (h : w.heap[g]? = some (.cells #[v, v2] T fr)) : (w.setCell ⟨g, 0, Option.none⟩ u).heap[g]? = some (.cells #[u, v2] T fr) := by
  simp [World.setCell, Array.getElem?_modify, h]
theorem setCell_at1 {w : World} {g : Nat} {v v2 u : Value} {T : TypeId} {fr : Nat × Nat} (h : w.heap[g]? = some (.cells #[v, v2] T fr)) : (w.setCell ⟨g, 1, Option.none⟩ u).heap[g]? = some (.cells #[v, u] T fr) := by
  simp [World.setCell, Array.getElem?_modify, h]
theorem rd_setCell {w : World} {k : IntKind} {A : Option Addr} {n : Nat} {xs : List Int} (h : Rd w k A n xs) {p : Addr} (u : Value) (hne : ∀ ad, A = some ad → 0 < n → ad.block ≠ p.block) : Rd (w.setCell p u) k A n xs :=
  h.keep fun ad e hn => Below.heap_setCell _ _ _ _ (hne ad e hn)
theorem ReaderIs.apart {w : World} {g : Nat} {A : Option Addr} {n c : Nat} {xs : List Int} {torn : Bool} (h : ReaderIs w g A n c xs torn) : ∀ ad, A = some ad → 0 < n → ad.block ≠ g := by
  intro ad hA hn hg
  obtain ⟨ad', e, hc⟩ := h.rd.cell hn
  rw [hA] at e
  cases e
  have h0 := hc 0 hn
  unfold World.cell? at h0
  rw [block_add, hg, h.at_] at h0
  simp only [] at h0
  split at h0
  · cases h0
  · have hm := Array.mem_of_getElem? h0
    simp at hm

set_option maxHeartbeats 400000 in
set_option maxRecDepth 100000 in
theorem rraw_yes (g : Nat) (xs : List Int) (torn : Bool) (k : Int) (w : World) (hr : Reader w g xs torn) (h0 : 0 ≤ k) (h1 : k ≤ xs.length) (hx : xs.length ≤ 1099511627776) :
    Calls Try.prog 214 #[.pointer (some ⟨g, 0, Option.none⟩), .int .i64 k] w fun e w' => ∃ A c, e = .returned (.slice A k.toNat c) ∧ Own w' (fun i => w.heap.size ≤ i) 5 1 (.slice A k.toNat c) k.toNat (nums .u8 (xs.take k.toNat)) ∧
      Reader w' g (xs.drop k.toNat) torn ∧ Chg (fun i => i = g) w w' := by
  obtain ⟨A1, n1, c1, hv1⟩ := hr
  have hcell0 := cell0_of hv1.at_
  have hcell1 := cell1_of hv1.at_
  have hfree := free_of hv1.at_ 0
  have hlt : g < w.heap.size := lt_of_at hv1.at_
  have HV1 := Lib.hid hv1
  have hl := hv1.rd.len
  obtain rfl : xs.length = n1 := hl
  have hroom := hv1.room
  obtain ⟨k, rfl⟩ := Int.eq_ofNat_of_zero_le h0
  have hsl : Rd w .u8 A1 k (xs.take k) := rd_take hv1.rd (by omega)
  have hal : Below w.heap.size w (w.alloc (.cells #[] 5)) := (Below.refl _ _).alloc (Nat.le_refl _) _
  have HRA := Lib.hid (hsl.below hal)
  have hsz : (w.alloc (.cells #[] 5)).heap.size = w.heap.size + 1 := by simp
  have HSZ := Lib.hid hsz
  clear hv1 hsl hal hsz
  go_enter Try.func214, Try.ntmps214
  go_wp2_with (at_builtin; refine wpList_app _ rfl (.tmp 23) (.tmp 29) 55 rfl (fun i => w.heap.size ≤ i) 5 .u8 1 Try.underlying55 info_u8 (by decide) (.slice (some ⟨w.heap.size, 0, Option.none⟩) 0 0) 0 [] rfl ?c1 A1 k _ (xs.take k) rfl HRA.out ?c2 ?c3 ?_)
  case c1 => exact ⟨World.ownsRow_lit w #[] 0 (Nat.zero_le _) (by simp only [maxLen]; omega) rfl, by simp [Value.ownBlock]⟩
  case c2 => omega
  case c3 => intro i hi; have := HSZ.out; omega
  intro A2 c2 w2 ho2 hc2
  have HO2 := Lib.hid ho2
  have hc3 : Chg (fun _ => False) w w2 := ((Chg.refl _ _).alloc _).step hc2 fun i hi h => by simp [Value.ownBlock] at h; omega
  have HC3 := Lib.hid hc3
  have hb2 := hc3.at_ HV1.out.at_ (fun h => h)
  have HB2 := Lib.hid hb2
  have hcell20 := cell0_of hb2
  have hcell21 := cell1_of hb2
  have hfree2 := free_of hb2 0
  clear ho2 hc2 hc3 hb2
  go_wp2
  all_goals
    go_ret
    refine ⟨A2, c2, rfl, HO2.out.keep fun i hi => Below.heap_setCell _ _ _ _ fun e => HO2.out.ne HB2.out (by decide) (by rw [hi, e]), ?_, Chg.setCell (S := fun i => i = g) (HC3.out.mono fun _ _ h => h.elim) (p := ⟨g, 0, Option.none⟩) rfl _⟩
  · have : xs.length - k = 0 := by omega
    rw [this]
    refine ⟨A1, 0, 0, setCell_at0 HB2.out, ?_, Nat.le_refl _, fun _ => rfl⟩
    rw [List.drop_eq_nil_of_le (by omega)]
    exact rd_nil _ _ _
  · refine ⟨_, _, _, setCell_at0 HB2.out, rd_setCell (rd_dropMap (HV1.out.rd.chg HC3.out fun _ _ _ h => h) (by omega)) _ ?_, by omega, ?_⟩
    · intro ad e hn
      rcases A1 with _ | a1
      · cases e
      · cases e
        rw [block_add]
        exact HV1.out.apart a1 rfl (by omega)
    · intro e
      rcases A1 with _ | a1
      · have := HV1.out.none rfl; omega
      · cases e

set_option maxHeartbeats 400000 in
set_option maxRecDepth 100000 in
theorem rraw_no (g : Nat) (xs : List Int) (torn : Bool) (k : Int) (w : World) (hr : Reader w g xs torn) (h1 : k < 0 ∨ xs.length < k) :
    Calls Try.prog 214 #[.pointer (some ⟨g, 0, Option.none⟩), .int .i64 k] w fun e w' => e = .returned (.slice Option.none 0 0) ∧ Reader w' g [] true ∧ Chg (fun i => i = g) w w' := by
  obtain ⟨A1, n1, c1, hv1⟩ := hr
  have hcell0 := cell0_of hv1.at_
  have hcell1 := cell1_of hv1.at_
  have hfree := free_of hv1.at_ 0
  have hfree1 := free_of hv1.at_ 1
  have HV1 := Lib.hid hv1
  have hl := hv1.rd.len
  obtain rfl : xs.length = n1 := hl
  clear hv1
  have hfin : ∀ W, W = (w.setCell ⟨g, 1, Option.none⟩ (.bool true)).setCell ⟨g, 0, Option.none⟩ (.slice Option.none 0 0) → Reader W g [] true ∧ Chg (fun i => i = g) w W := by
    rintro _ rfl
    exact ⟨⟨Option.none, 0, 0, setCell_at0 (setCell_at1 HV1.out.at_), rd_nil _ _ _, Nat.le_refl _, fun _ => rfl⟩, Chg.setCell (S := fun i => i = g) (Chg.setCell (S := fun i => i = g) (Chg.refl _ _) (p := ⟨g, 1, Option.none⟩) rfl _) (p := ⟨g, 0, Option.none⟩) rfl _⟩
  have HF := Lib.hid hfin
  clear hfin
  rcases h1 with h1 | h1
  · go_enter Try.func214, Try.ntmps214
    go_wp2
    go_ret
    exact ⟨rfl, HF.out _ rfl⟩
  · have h2 : ¬ k < 0 := by omega
    go_enter Try.func214, Try.ntmps214
    go_wp2
    go_ret
    exact ⟨rfl, HF.out _ rfl⟩

def rn (k : Nat) (xs : List Int) : Int := if k ≤ xs.length then Le.of (xs.take k) else 0
def rx (k : Nat) (xs : List Int) : List Int := if k ≤ xs.length then xs.drop k else []
def rt (k : Nat) (xs : List Int) (torn : Bool) : Bool := if k ≤ xs.length then torn else true

set_option maxHeartbeats 400000 in
set_option maxRecDepth 100000 in
theorem rnum_calls (g : Nat) (xs : List Int) (torn : Bool) (k : Int) (w : World) (hr : Reader w g xs torn) (h0 : 0 ≤ k) (h8 : k ≤ 8) (hx : xs.length ≤ 1099511627776) :
    Calls Try.prog 156 #[.pointer (some ⟨g, 0, Option.none⟩), .int .i64 k] w fun e w' => e = .returned (.int .u64 (rn k.toNat xs)) ∧ Reader w' g (rx k.toNat xs) (rt k.toNat xs torn) ∧ Chg (fun i => i = g) w w' := by
  have HR := Lib.hid hr
  clear hr
  obtain ⟨k, rfl⟩ := Int.eq_ofNat_of_zero_le h0
  rw [Int.toNat_natCast]
  by_cases hk : (k : Int) ≤ xs.length
  · have e1 : rn k xs = Le.of (xs.take k) := if_pos (by omega)
    have e2 : rx k xs = xs.drop k := if_pos (by omega)
    have e3 : rt k xs torn = torn := if_pos (by omega)
    rw [e1, e2, e3]
    clear e1 e2 e3
    go_enter Try.func156, Try.ntmps156
    go_wp2_with fail
    refine (rraw_yes g xs torn k w HR.out h0 (by omega) hx).mono ?_
    rintro e w' ⟨A, c, rfl, ho, hrd, hc⟩
    rw [Int.toNat_natCast] at *
    have HO := Lib.hid ho
    have HRD := Lib.hid hrd
    have HC := Lib.hid hc
    have hwf : ∀ x ∈ xs, (Lit.int .u8 x).wf = true := by obtain ⟨_, _, _, h⟩ := HR.out; exact h.rd.wf
    clear ho hrd hc
    have hro : Rd w' .u8 A k (xs.take k) := HO.out.rd (fun x hx => hwf x (List.mem_of_mem_take hx))
    have HRO := Lib.hid hro
    clear hro hwf
    generalize hys : xs.take k = ys at *
    have HYS := Lib.hid hys
    clear hys
    go_wp2
    go_loopw [5, 6, 7, 14] (fun n _ _ i wr => ∃ j : Nat, j ≤ k ∧ i = .int .i64 j ∧ n = .int .u64 (Le.of (ys.take j)) ∧ wr = w') (fun _ _ _ i _ => k - (intOf i).toNat)
    case atStart => exact ⟨0, Nat.zero_le _, rfl, rfl, rfl⟩
    case round =>
      obtain ⟨j, hj, rfl, rfl, rfl⟩ := hrel
      by_cases hlt : j < k
      · obtain ⟨ad, rfl, hcell⟩ := HRO.out.at_ hlt
        obtain ⟨hz0, hz1⟩ := wf_u8 (HRO.out.wfAt hlt)
        generalize hg : ys.getD j 0 = b at *
        have HG := Lib.hid hg
        clear hg
        have hb := Le.of_take_bound (fun x hx => wf_u8 (HRO.out.wf x hx)) HRO.out.len hj
        have hor := Le.or_step j (by omega) (Le.of (ys.take j)) b hb.1 hb.2 hz0 hz1
        have hsn := Le.of_snoc (ys.take j) b
        rw [← take_next HRO.out.len hlt HG.out, List.length_take, HRO.out.len, Nat.min_eq_left hj, ← hor] at hsn
        have HSN := Lib.hid hsn
        clear hb hor hsn
        go_wp2
        go_roundw
        case rel => exact ⟨j + 1, by omega, by go_num, by rw [HSN.out], trivial⟩
        case measure => simp [intOf]; omega
      · obtain rfl : j = k := by omega
        have ht : ys.take j = ys := List.take_of_length_le (by rw [HRO.out.len]; omega)
        have HT := Lib.hid ht
        clear ht
        go_wp2
        go_ret
        exact ⟨ret_int (by rw [HYS.out, HT.out]), HRD.out, HC.out⟩
  · have e1 : rn k xs = 0 := if_neg (by omega)
    have e2 : rx k xs = [] := if_neg (by omega)
    have e3 : rt k xs torn = true := if_neg (by omega)
    rw [e1, e2, e3]
    clear e1 e2 e3
    go_enter Try.func156, Try.ntmps156
    go_wp2_with fail
    refine (rraw_no g xs torn k w HR.out (.inr (by omega))).mono ?_
    rintro e w' ⟨rfl, hrd⟩
    have HRD := Lib.hid hrd
    clear hrd
    go_wp2
    go_loopw [5, 6, 7, 14] (fun n _ _ i wr => i = .int .i64 0 ∧ n = .int .u64 0 ∧ wr = w') (fun _ _ _ i _ => 0)
    case atStart => exact ⟨rfl, rfl, rfl⟩
    case round =>
      obtain ⟨rfl, rfl, rfl⟩ := hrel
      go_wp2
      go_ret
      exact ⟨rfl, HRD.out⟩

theorem torn_calls (g : Nat) (xs : List Int) (torn : Bool) (w : World) (hr : Reader w g xs torn) :
    Calls Try.prog 212 #[.pointer (some ⟨g, 0, Option.none⟩)] w fun e w' => e = .returned (.bool torn) ∧ w = w' := by
  obtain ⟨A1, n1, c1, hv1⟩ := hr
  have hcell0 := cell0_of hv1.at_
  have hcell1 := cell1_of hv1.at_
  clear hv1
  go_enter Try.func212, Try.ntmps212
  go_wp2
  go_ret
  exact ⟨rfl, rfl⟩
theorem left_calls (g : Nat) (xs : List Int) (torn : Bool) (w : World) (hr : Reader w g xs torn) :
    Calls Try.prog 213 #[.pointer (some ⟨g, 0, Option.none⟩)] w fun e w' => e = .returned (.int .i64 xs.length) ∧ w = w' := by
  obtain ⟨A1, n1, c1, hv1⟩ := hr
  have hcell0 := cell0_of hv1.at_
  have hcell1 := cell1_of hv1.at_
  have hl := hv1.rd.len
  obtain rfl : xs.length = n1 := hl
  clear hv1
  go_enter Try.func213, Try.ntmps213
  go_wp2
  go_ret
  exact ⟨rfl, rfl⟩
theorem read_calls (A : Option Addr) (n c : Nat) (xs : List Int) (w : World) (hr : Rd w .u8 A n xs) (hc : n ≤ c) (h0 : A = none → c = 0) :
    Calls Try.prog 155 #[.slice A n c] w fun e w' => e = .returned (.pointer (some ⟨w.heap.size, 0, Option.none⟩)) ∧ Reader w' w.heap.size xs false ∧ Below w.heap.size w w' := by
  have HR := Lib.hid hr
  clear hr
  go_enter Try.func155, Try.ntmps155
  go_wp2
  go_ret
  exact ⟨rfl, ⟨A, n, c, at_new _ _, HR.out.below (below_new _ _), hc, h0⟩, below_new _ _⟩
theorem writer_new (S : Nat → Prop) (w : World) (hS : S w.heap.size) : Writer (w.alloc (.cells #[.slice Option.none 0 0] 190)) S w.heap.size [] :=
  ⟨Option.none, 0, 0, at_new _ _, Own.nil _ _ _ _, hS, by simp⟩
theorem Writer.wf {w : World} {S : Nat → Prop} {g : Nat} {xs : List Int} (h : Writer w S g xs) : ∀ x ∈ xs, (Lit.int .u8 x).wf = true := by obtain ⟨_, _, _, h⟩ := h; exact h.wf
theorem Writer.chg {w w' : World} {S S' : Nat → Prop} {g : Nat} {xs : List Int} (h : Writer w S g xs) (hg : Chg S' w w') (hd : ∀ i, S i → ¬ S' i) : Writer w' S g xs := by
  obtain ⟨A, n, c, h⟩ := h
  exact ⟨A, n, c, h.chg hg hd⟩
theorem Writer.below {w w' : World} {S : Nat → Prop} {g : Nat} {xs : List Int} (h : Writer w S g xs) (hb : Below w.heap.size w w') : Writer w' S g xs := h.chg (S' := fun _ => False) (Below.chg hb) (fun _ _ h => h)
end Go.Proofs.Ytipmkddcdnbihaa.Pack
