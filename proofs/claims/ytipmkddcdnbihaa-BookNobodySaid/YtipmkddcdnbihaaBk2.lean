/- Texts put together: Ref01, Crc, Seal, Frame, SealFrame, SealOpen, Ref10, Ref10Open, Scan, Vec, Ord, DiaryP, DiaryRec, Diary, DiaryAwake. Contracts and plain facts, no condition but what each says. -/
import Derived.WalkKit
import Derived.Test.YtipmkddcdnbihaaProg
import Derived.KernelRfl
import Derived.Lib.Hide
import Derived.Lib.SlBytesConst
import Derived.Deep.RegionHeld3
import Derived.Outline
import Derived.Deep.QuietTactic
import Derived.BigQuiet
import Derived.Deep.DeepCutAuto
import Derived.Deep.CutRange
import Derived.Test.YtipmkddcdnbihaaBk1
namespace Go.Proofs.Ytipmkddcdnbihaa.Ref01
open Go.RowKit Base

theorem info_rows : (Try.prog.info? 55).map (fun i => (i.zero, i.size, i.bytes)) = some (some (.slice none 0 0), 1, 24) := by kernel_rfl

set_option maxHeartbeats 400000 in
set_option maxRecDepth 100000 in
theorem num_calls (n : Int) (size : Int) (w : World) (h0 : 0 ≤ size) (h8 : size ≤ 8) (hn0 : 0 ≤ n) (hn1 : n < 18446744073709551616) :
    Calls Try.prog 102 #[.int .u64 n, .int .i64 size] w fun e w' => ∃ A c, e = .returned (.slice A size.toNat c) ∧ Own w' (fun i => w.heap.size ≤ i) 5 1 (.slice A size.toNat c) size.toNat (nums .u8 (Le.le size.toNat n)) ∧ Below w.heap.size w w' := by
  obtain ⟨m, rfl⟩ := Int.eq_ofNat_of_zero_le h0
  rw [Int.toNat_natCast]
  go_enter Try.func102, Try.ntmps102
  go_wp2
  go_loopw [0, 5, 6] (fun q v i wr => ∃ (k : Nat) (A : Option Addr) (c : Nat), k ≤ m ∧ i = .int .i64 k ∧ q = .int .u64 (n / 256 ^ k) ∧ v = .slice A k c ∧ Hid (Own wr (fun i => w.heap.size ≤ i) 5 1 (.slice A k c) k (nums .u8 (Le.le k n))) ∧ Hid (Below w.heap.size w wr)) (fun _ _ i _ => m - (intOf i).toNat)
  case atStart => exact ⟨0, none, 0, Nat.zero_le _, rfl, by simp, rfl, Lib.hid (Own.nil _ _ _ _), Lib.hid (Below.refl _ _)⟩
  case round =>
    obtain ⟨k, A1, c1, hk, rfl, rfl, rfl, HV, HB⟩ := hrel
    have hq0 : 0 ≤ n / 256 ^ k := Int.ediv_nonneg hn0 (Int.pow_nonneg (by omega))
    have hq1 : n / 256 ^ k < 18446744073709551616 := Int.lt_of_le_of_lt (Int.ediv_le_self _ hn0) hn1
    by_cases hlt : k < m
    · go_wp2_with (at_builtin; refine wpList_app1 _ rfl (.tmp 16) (.tmp 20) 55 rfl (fun i => w.heap.size ≤ i) 5 .u8 1 Try.underlying55 Pack.info_u8 (by decide) (.slice A1 k c1) _ (Le.le k n) rfl HV.out _ rfl ?c1 ?c2 ?c3 ?_)
      case c1 => exact u8_wf (by omega) (by omega)
      case c2 => omega
      case c3 => exact fun i hi => Nat.le_trans HB.out.size hi
      intro A2 c2 w2 ho2 hc2
      rw [← Le.le_snoc] at ho2
      have HO2 := Lib.hid ho2
      have HB2 := Lib.hid ((Below.chg HB.out).step hc2 fun i _ h => HV.out.foot i h).below
      have hd1 : n / 256 ^ k / 256 = n / 256 ^ (k + 1) := by rw [Int.ediv_ediv_of_nonneg (Int.pow_nonneg (by omega)), Int.pow_succ]
      have HD1 := Lib.hid hd1
      clear hd1 ho2 hc2
      go_wp2
      go_roundw
      case rel => exact ⟨k + 1, A2, c2, by omega, by go_num, by rw [HD1.out], rfl, HO2, HB2⟩
      case measure => simp [intOf]; omega
    · obtain rfl : k = m := by omega
      go_wp2
      go_ret
      exact ⟨A1, c1, rfl, HV.out, HB.out⟩

/-- A slice of slices of bytes that reads so. -/
structure RdRows (w : World) (A : Option Addr) (n : Nat) (rows : List (Option Addr × Nat × Nat × List Int)) : Prop where
  len : rows.length = n
  cell : 0 < n → ∃ ad, A = some ad ∧ ∀ j r, rows[j]? = some r → w.cell? (ad.add j) = some (.slice r.1 r.2.1 r.2.2.1) ∧ Rd w .u8 r.1 r.2.1 r.2.2.2
def flat (rows : List (Option Addr × Nat × Nat × List Int)) : List Int := (rows.map fun r => r.2.2.2).flatten
theorem flat_append (a b : List (Option Addr × Nat × Nat × List Int)) : flat (a ++ b) = flat a ++ flat b := by simp [flat]
theorem flat_le (k : Nat) (a : List (Option Addr × Nat × Nat × List Int)) : (flat (a.take k)).length ≤ (flat a).length := by
  have h := congrArg (fun l => (flat l).length) (List.take_append_drop k a)
  simp only [flat_append, List.length_append] at h
  omega
theorem RdRows.below {w w' : World} {A : Option Addr} {n : Nat} {rows : List (Option Addr × Nat × Nat × List Int)} (h : RdRows w A n rows) (hb : Below w.heap.size w w') : RdRows w' A n rows :=
  ⟨h.len, fun h0 => by
    obtain ⟨ad, e, hc⟩ := h.cell h0
    refine ⟨ad, e, fun j r hr => ?_⟩
    obtain ⟨h1, h2⟩ := hc j r hr
    exact ⟨by rw [hb.cell (World.block_lt_of_cell? w _ h1)]; exact h1, h2.below hb⟩⟩
theorem flat_wf {w : World} {A : Option Addr} {n : Nat} {rows : List (Option Addr × Nat × Nat × List Int)} (h : RdRows w A n rows) : ∀ x ∈ flat rows, (Lit.int .u8 x).wf = true := by
  intro x hx
  simp only [flat, List.mem_flatten, List.mem_map] at hx
  obtain ⟨l, ⟨r, hr, rfl⟩, hx⟩ := hx
  obtain ⟨j, hj, rfl⟩ := List.mem_iff_getElem.1 hr
  obtain ⟨ad, e, hc⟩ := h.cell (by have := h.len; omega)
  exact (hc j _ (List.getElem?_eq_getElem hj)).2.wf x hx

theorem rdrows_new (w : World) (e : TypeId) (rows : List (Option Addr × Nat × Nat × List Int)) (C : Array Value) (hC : C.toList = rows.map fun r => .slice r.1 r.2.1 r.2.2.1) (h : ∀ r ∈ rows, Rd w .u8 r.1 r.2.1 r.2.2.2) : RdRows (w.alloc (.cells C e)) (some ⟨w.heap.size, 0, none⟩) rows.length rows :=
  ⟨rfl, fun _ => ⟨_, rfl, fun j r hr => ⟨World.news_of_block (at_new w _) j _ (by rw [hC]; simp [hr]), (h r (List.mem_of_getElem? hr)).below (below_new w _)⟩⟩⟩

set_option maxHeartbeats 400000 in
set_option maxRecDepth 100000 in
theorem join_calls (A : Option Addr) (n c : Nat) (rows : List (Option Addr × Nat × Nat × List Int)) (w : World) (hr : RdRows w A n rows) (hn : n ≤ 1099511627776) (hl : (flat rows).length ≤ 1099511627776) :
    Calls Try.prog 103 #[.slice A n c] w fun e w' => ∃ A' c', e = .returned (.slice A' (flat rows).length c') ∧ Own w' (fun i => w.heap.size ≤ i) 5 1 (.slice A' (flat rows).length c') (flat rows).length (nums .u8 (flat rows)) ∧ Below w.heap.size w w' := by
  have HR := Lib.hid hr
  have HL := Lib.hid hl
  clear hr hl
  go_enter Try.func103, Try.ntmps103
  go_wp2
  go_loopw [3, 4] (fun v i wr => ∃ (k m : Nat) (A' : Option Addr) (c' : Nat), k ≤ n ∧ i = .int .i64 k ∧ v = .slice A' m c' ∧ Hid (m = (flat (rows.take k)).length) ∧ Hid (Own wr (fun i => w.heap.size ≤ i) 5 1 (.slice A' m c') m (nums .u8 (flat (rows.take k)))) ∧ Hid (Below w.heap.size w wr)) (fun _ i _ => n - (intOf i).toNat)
  case atStart => exact ⟨0, 0, none, 0, Nat.zero_le _, rfl, rfl, Lib.hid rfl, Lib.hid (Own.nil _ _ _ _), Lib.hid (Below.refl _ _)⟩
  case round =>
    obtain ⟨k, m, A1, c1, hk, rfl, rfl, HM, HV, HB⟩ := hrel
    by_cases hlt : k < n
    · have hkl : k < rows.length := by rw [HR.out.len]; exact hlt
      obtain ⟨r, hrk⟩ : ∃ r, rows[k]? = some r := ⟨_, List.getElem?_eq_getElem hkl⟩
      have hrr := HR.out.below HB.out
      obtain ⟨ad, rfl, hcc⟩ := hrr.cell (by omega)
      obtain ⟨hcell, hrd⟩ := hcc k r hrk
      obtain ⟨B, nb, cb, ys⟩ := r
      have hfs : flat (rows.take (k + 1)) = flat (rows.take k) ++ ys := by
        rw [List.take_add_one, hrk]
        simp [flat]
      have hpre : (flat (rows.take (k + 1))).length ≤ (flat rows).length := flat_le _ _
      have hlen2 : m + nb ≤ 1099511627776 := by
        have h1 := HL.out
        rw [hfs, List.length_append] at hpre
        have h2 := HM.out
        have h3 : ys.length = nb := hrd.len
        omega
      have HFS := Lib.hid hfs
      have HRD := Lib.hid hrd
      clear hrk hrr hcc hrd hfs hpre
      go_wp2_with (at_builtin; refine wpList_app _ rfl (.tmp 11) (.tmp 15) 55 rfl (fun i => w.heap.size ≤ i) 5 .u8 1 Try.underlying55 Pack.info_u8 (by decide) (.slice A1 m c1) _ (flat (rows.take k)) rfl HV.out B nb cb ys rfl HRD.out ?c2 ?c3 ?_)
      case c2 => omega
      case c3 => exact fun i hi => Nat.le_trans HB.out.size hi
      intro A2 c2 w2 ho2 hc2
      rw [← HFS.out] at ho2
      have HO2 := Lib.hid ho2
      have HB2 := Lib.hid ((Below.chg HB.out).step hc2 fun i _ h => HV.out.foot i h).below
      have hm2 : m + nb = (flat (rows.take (k + 1))).length := by rw [HFS.out, List.length_append, ← HM.out, HRD.out.len]
      have HM2 := Lib.hid hm2
      clear ho2 hc2 hm2
      go_wp2
      go_roundw
      case rel => exact ⟨k + 1, m + nb, A2, c2, by omega, by go_num, rfl, HM2, HO2, HB2⟩
      case measure => simp [intOf]; omega
    · obtain rfl : k = n := by omega
      have ht : rows.take k = rows := List.take_of_length_le (by rw [HR.out.len]; omega)
      have hm := HM.out
      have hv := HV.out
      rw [ht] at hm hv
      subst hm
      have HV2 := Lib.hid hv
      clear ht hv HM HV
      go_wp2
      go_ret
      exact ⟨A1, c1, rfl, HV2.out, HB.out⟩
set_option maxHeartbeats 400000 in
set_option maxRecDepth 100000 in
theorem of_calls (A : Option Addr) (n c : Nat) (xs : List Int) (w : World) (hr : Rd w .u8 A n xs) (h8 : n ≤ 8) :
    Calls Try.prog 234 #[.slice A n c] w fun e w' => e = .returned (.int .u64 (Le.of xs)) ∧ w = w' := by
  have HU : Hid (Le.U8s xs) := Lib.hid fun x hx => wf_u8 (hr.wf x hx)
  have HL := Lib.hid hr.len
  go_enter Try.func234, Try.ntmps234
  go_wp2
  go_loop [3, 4] (fun t i => ∃ k : Nat, k ≤ n ∧ i = .int .i64 ((k : Int) - 1) ∧ t = .int .u64 (Le.of (xs.drop k))) (fun _ i => (intOf i + 1).toNat)
  case atStart => exact ⟨n, Nat.le_refl _, rfl, by rw [List.drop_eq_nil_of_le (by rw [HL.out]; omega)]; rfl⟩
  case round =>
    obtain ⟨k, hk, rfl, rfl⟩ := hrel
    by_cases hlt : 0 < k
    · obtain ⟨m, rfl⟩ : ∃ m, k = m + 1 := ⟨k - 1, by omega⟩
      obtain ⟨ad, rfl, hcell⟩ := hr.at_ (j := m) (by omega)
      obtain ⟨hz0, hz1⟩ := wf_u8 (hr.wfAt (j := m) (by omega))
      have hb := Le.of_bound (xs.drop (m + 1)) fun x hx => HU.out x (List.mem_of_mem_drop hx)
      have hb2 : (256 : Int) ^ (xs.drop (m + 1)).length ≤ 256 ^ 7 := by
        have h1 : (256 : Nat) ^ (xs.drop (m + 1)).length ≤ 256 ^ 7 := Nat.pow_le_pow_right (by omega) (by simp [HL.out]; omega)
        have h2 : ((256 ^ (xs.drop (m + 1)).length : Nat) : Int) ≤ ((256 ^ 7 : Nat) : Int) := Int.ofNat_le.2 h1
        simpa using h2
      have hb3 : (256 : Int) ^ 7 = 72057594037927936 := by decide
      have hd : xs.drop m = xs.getD m 0 :: xs.drop (m + 1) := by
        rw [List.getD_eq_getElem?_getD, List.getElem?_eq_getElem (by rw [HL.out]; omega)]
        exact List.drop_eq_getElem_cons (by rw [HL.out]; omega)
      have HS : Hid (Le.of (xs.drop m) = Le.of (xs.drop (m + 1)) * 256 + xs.getD m 0) := Lib.hid (by rw [hd, Le.of]; omega)
      rw [hb3] at hb2
      have q0 := hb.1
      have q1 : Le.of (xs.drop (m + 1)) < 72057594037927936 := by omega
      clear hb hb2 hb3 hd
      generalize xs.getD m 0 = b at *
      generalize Le.of (xs.drop (m + 1)) = acc at *
      go_wp2
      go_round
      case rel => exact ⟨m, by omega, by go_num, by rw [HS.out]⟩
      case measure => simp [intOf]
    · obtain rfl : k = 0 := by omega
      go_wp2
      go_ret
      exact ⟨by simp, rfl⟩
end Go.Proofs.Ytipmkddcdnbihaa.Ref01
/- Plain facts about the sum CRC-32C, bit by bit: no program in sight. -/
namespace Go.Proofs.Ytipmkddcdnbihaa.Crc

/-- One bit's step. -/
def bit (s : Int) : Int := if s % 2 = 1 then Go.bits .xor .u32 (s / 2) 2197175160 else s / 2
/-- So many bits' steps. -/
def bitsN : Nat → Int → Int
  | 0, s => s
  | n + 1, s => bitsN n (bit s)
/-- One byte's step. -/
def byte (s c : Int) : Int := bitsN 8 (Go.bits .xor .u32 s c)
/-- All bytes' steps. -/
def run (s : Int) (l : List Int) : Int := l.foldl byte s
/-- The sum of bytes behind others. -/
def sumOn (s : Int) (l : List Int) : Int := 4294967295 - run (4294967295 - s) l
def sum (l : List Int) : Int := sumOn 0 l

def U32 (s : Int) : Prop := 0 ≤ s ∧ s < 4294967296
theorem xor_u32 (a b : Int) : U32 (Go.bits .xor .u32 a b) := by
  have h := (BitVec.ofInt 32 a ^^^ BitVec.ofInt 32 b).isLt
  unfold U32 Go.bits
  simp [IntKind.wrap, IntKind.bits, IntKind.signed]
  omega
theorem bit_u32 {s : Int} (h : U32 s) : U32 (bit s) := by
  unfold bit
  split
  · exact xor_u32 _ _
  · unfold U32 at *; omega
theorem bitsN_u32 (n : Nat) : ∀ {s : Int}, U32 s → U32 (bitsN n s) := by
  induction n with
  | zero => intro s h; exact h
  | succ n ih => intro s h; exact ih (bit_u32 h)
theorem byte_u32 (s c : Int) : U32 (byte s c) := bitsN_u32 8 (xor_u32 _ _)
theorem run_u32 (l : List Int) : ∀ {s : Int}, U32 s → U32 (run s l) := by
  induction l with
  | nil => intro s h; exact h
  | cons c l ih => intro s _; exact ih (byte_u32 s c)
theorem sumOn_u32 {s : Int} (h : U32 s) (l : List Int) : U32 (sumOn s l) := by
  have := run_u32 l (s := 4294967295 - s) (by unfold U32 at *; omega)
  unfold sumOn U32 at *
  omega
theorem sum_u32 (l : List Int) : U32 (sum l) := sumOn_u32 (by unfold U32; omega) l
theorem run_append (s : Int) (a b : List Int) : run s (a ++ b) = run (run s a) b := by simp [run]
theorem sumOn_append (s : Int) (a b : List Int) : sumOn (sumOn s a) b = sumOn s (a ++ b) := by
  unfold sumOn
  rw [run_append]
  congr 2
  omega
theorem run_snoc (s : Int) (l : List Int) (c : Int) : run s (l ++ [c]) = byte (run s l) c := by simp [run]
theorem bitsN_snoc (n : Nat) : ∀ s, bitsN (n + 1) s = bit (bitsN n s) := by
  induction n with
  | zero => intro s; rfl
  | succ n ih => intro s; show bitsN (n + 1) (bit s) = _; rw [ih]; rfl
theorem not_u32 {s : Int} (h : U32 s) : Go.bits .xor .u32 IntKind.u32.max s = 4294967295 - s := by
  obtain ⟨n, rfl⟩ := Int.eq_ofNat_of_zero_le h.1
  have hn : n < 4294967296 := by have := h.2; omega
  have e : IntKind.u32.max = ((4294967295 : Nat) : Int) := by decide
  rw [e, u32_xor_nat _ _ (by omega) hn]
  have : (4294967295 ^^^ n : Nat) = 4294967295 - n := by
    have h3 : BitVec.allOnes 32 ^^^ BitVec.ofNat 32 n = ~~~ BitVec.ofNat 32 n := BitVec.allOnes_xor
    have h4 := congrArg BitVec.toNat h3
    rw [BitVec.toNat_xor, BitVec.toNat_not, BitVec.toNat_allOnes, BitVec.toNat_ofNat, Nat.mod_eq_of_lt (by simpa using hn)] at h4
    simpa using h4
  rw [this]; omega
theorem bit_odd {s : Int} (h : s % 2 = 1) : bit s = Go.bits .xor .u32 (s / 2) 2197175160 := if_pos h
theorem bit_even {s : Int} (h : ¬ s % 2 = 1) : bit s = s / 2 := if_neg h
theorem and_one {s : Int} (h : U32 s) : Go.bits .and .u32 s 1 = s % 2 := by
  rw [u32_and _ _ h.1 h.2 (by omega) (by omega)]
  show ((s.toNat &&& 1 : Nat) : Int) = _
  rw [nat_mask1]
  have := h.1
  omega
end Go.Proofs.Ytipmkddcdnbihaa.Crc
namespace Go.Proofs.Ytipmkddcdnbihaa.Seal
open Go.RowKit Base

set_option maxHeartbeats 400000 in
theorem go_calls (s : Int) (A : Option Addr) (n cap : Nat) (zs : List Int) (w : World) (hs : Crc.U32 s) (hr : Rd w .u8 A n zs) :
    Calls Try.prog 224 #[.int .u32 s, .slice A n cap] w fun e w' => e = .returned (.int .u32 (Crc.sumOn s zs)) ∧ w = w' := by
  have H0 := Lib.hid (Crc.not_u32 hs)
  have hm := hr.room
  have HR := Lib.hid hr
  have HN := Lib.hid hr.len
  have HS := Lib.hid hs
  clear hr hs
  go_enter Try.func224, Try.ntmps224
  go_wp2
  rw [H0.out]
  go_loop [5, 12] (fun t i => ∃ k : Nat, k ≤ n ∧ i = .int .i64 k ∧ t = .int .u32 (Crc.run (4294967295 - s) (zs.take k))) (fun _ i => n - (intOf i).toNat)
  case atStart => exact ⟨0, Nat.zero_le _, rfl, rfl⟩
  case round =>
    obtain ⟨k, hk, rfl, rfl⟩ := hrel
    have hu : Crc.U32 (Crc.run (4294967295 - s) (zs.take k)) := Crc.run_u32 _ (by have := HS.out; unfold Crc.U32 at *; omega)
    have HU := Lib.hid hu
    clear hu
    by_cases hlt : k < n
    · obtain ⟨ad, rfl, hcell⟩ := HR.out.at_ hlt
      obtain ⟨hz0, hz1⟩ := wf_u8 (HR.out.wfAt hlt)
      generalize hg : zs.getD k 0 = c at *
      have HG := Lib.hid hg
      clear hg
      go_wp2
      have hx := Crc.xor_u32 (Crc.run (4294967295 - s) (List.take k zs)) c
      have hX : Crc.byte (Crc.run (4294967295 - s) (List.take k zs)) c = Crc.bitsN 8 (Go.bits .xor .u32 (Crc.run (4294967295 - s) (List.take k zs)) c) := rfl
      rw [← Crc.run_snoc, ← take_next HR.out.len hlt HG.out] at hX
      have HX := Lib.hid hX
      clear hX
      generalize Go.bits .xor .u32 (Crc.run (4294967295 - s) (List.take k zs)) c = x at *
      have HXU := Lib.hid hx
      clear hx
      go_loop [5, 20] (fun t i => ∃ j : Nat, j ≤ 8 ∧ i = .int .i64 j ∧ t = .int .u32 (Crc.bitsN j x)) (fun _ i => 8 - (intOf i).toNat)
      case atStart => exact ⟨0, Nat.zero_le _, rfl, rfl⟩
      case round =>
        obtain ⟨j, hj, rfl, rfl⟩ := hrel
        have hju := Crc.bitsN_u32 j HXU.out
        have HJU := Lib.hid hju
        have hsn := Lib.hid (Crc.bitsN_snoc j x)
        have hj0 : 0 ≤ Crc.bitsN j x := hju.1
        have hj1 : Crc.bitsN j x < 4294967296 := hju.2
        clear hju
        by_cases hlj : j < 8
        · have ha := Crc.and_one HJU.out
          by_cases ho : Crc.bitsN j x % 2 = 1
          · have hb : (Go.bits .and .u32 (Crc.bitsN j x) 1 == 1) = true := by rw [ha, ho]; rfl
            have HS1 := Lib.hid (hsn.out.trans (Crc.bit_odd ho))
            clear ha ho
            go_wp2
            go_round
            case rel => exact ⟨j + 1, by omega, by go_num, by rw [HS1.out]⟩
            case measure => simp [intOf]; omega
          · have hb : (Go.bits .and .u32 (Crc.bitsN j x) 1 == 1) = false := by rw [ha]; exact beq_eq_false_iff_ne.2 ho
            have HS1 := Lib.hid (hsn.out.trans (Crc.bit_even ho))
            clear ha ho
            go_wp2
            go_round
            case rel => exact ⟨j + 1, by omega, by go_num, by rw [HS1.out]⟩
            case measure => simp [intOf]; omega
        · obtain rfl : j = 8 := by omega
          go_wp2
          go_round
          case rel => exact ⟨k + 1, by omega, by go_num, by rw [HX.out]⟩
          case measure => simp [intOf]; omega
    · obtain rfl : k = n := by omega
      have HT : Hid (zs.take k = zs) := Lib.hid (List.take_of_length_le (by rw [HN.out]; omega))
      have H1 := Lib.hid (Crc.not_u32 HU.out)
      go_wp2
      rw [H1.out, HT.out]
      go_ret
      exact ⟨rfl, rfl⟩

theorem sum_calls (A : Option Addr) (n cap : Nat) (zs : List Int) (w : World) (hr : Rd w .u8 A n zs) :
    Calls Try.prog 225 #[.slice A n cap] w fun e w' => e = .returned (.int .u32 (Crc.sum zs)) ∧ w = w' := by
  have HR := Lib.hid hr
  clear hr
  go_enter Try.func225, Try.ntmps225
  go_wp2_with (go_at_call 224; refine (go_calls _ _ _ _ zs _ (by unfold Crc.U32; omega) HR.out).mono ?_; rintro e w' ⟨rfl, rfl⟩)
  go_ret
  exact ⟨rfl, rfl⟩

set_option maxHeartbeats 400000 in
theorem refsum_calls (A : Option Addr) (n cap : Nat) (zs : List Int) (w : World) (hr : Rd w .u8 A n zs) :
    Calls Try.prog 235 #[.slice A n cap] w fun e w' => e = .returned (.int .u32 (Crc.sum zs)) ∧ w = w' := by
  have hm := hr.room
  have HR := Lib.hid hr
  have HN := Lib.hid hr.len
  clear hr
  go_enter Try.func235, Try.ntmps235
  go_wp2
  go_loop [3, 4] (fun t i => ∃ k : Nat, k ≤ n ∧ i = .int .i64 k ∧ t = .int .u32 (Crc.run 4294967295 (zs.take k))) (fun _ i => n - (intOf i).toNat)
  case atStart => exact ⟨0, Nat.zero_le _, rfl, rfl⟩
  case round =>
    obtain ⟨k, hk, rfl, rfl⟩ := hrel
    have hu : Crc.U32 (Crc.run 4294967295 (zs.take k)) := Crc.run_u32 _ (by unfold Crc.U32 at *; omega)
    have HU := Lib.hid hu
    clear hu
    by_cases hlt : k < n
    · obtain ⟨ad, rfl, hcell⟩ := HR.out.at_ hlt
      obtain ⟨hz0, hz1⟩ := wf_u8 (HR.out.wfAt hlt)
      generalize hg : zs.getD k 0 = c at *
      have HG := Lib.hid hg
      clear hg
      go_wp2
      have hx := Crc.xor_u32 (Crc.run 4294967295 (List.take k zs)) c
      have hX : Crc.byte (Crc.run 4294967295 (List.take k zs)) c = Crc.bitsN 8 (Go.bits .xor .u32 (Crc.run 4294967295 (List.take k zs)) c) := rfl
      rw [← Crc.run_snoc, ← take_next HR.out.len hlt HG.out] at hX
      have HX := Lib.hid hX
      clear hX
      generalize Go.bits .xor .u32 (Crc.run 4294967295 (List.take k zs)) c = x at *
      have HXU := Lib.hid hx
      clear hx
      go_loop [3, 5, 6] (fun t i _ => ∃ j : Nat, j ≤ 8 ∧ i = .int .i64 j ∧ t = .int .u32 (Crc.bitsN j x)) (fun _ i _ => 8 - (intOf i).toNat)
      case atStart => exact ⟨0, Nat.zero_le _, rfl, rfl⟩
      case round =>
        obtain ⟨j, hj, rfl, rfl⟩ := hrel
        have hju := Crc.bitsN_u32 j HXU.out
        have hsn := Lib.hid (Crc.bitsN_snoc j x)
        have hj0 : 0 ≤ Crc.bitsN j x := hju.1
        have hj1 : Crc.bitsN j x < 4294967296 := hju.2
        clear hju
        by_cases hlj : j < 8
        · by_cases ho : Crc.bitsN j x % 2 = 1
          · have hb : (Crc.bitsN j x % 2 == 1) = true := by rw [ho]; rfl
            have HS1 := Lib.hid (hsn.out.trans (Crc.bit_odd ho))
            clear ho
            go_wp2
            go_round
            case rel => exact ⟨j + 1, by omega, by go_num, by rw [HS1.out]⟩
            case measure => simp [intOf]; omega
          · have hb : (Crc.bitsN j x % 2 == 1) = false := beq_eq_false_iff_ne.2 ho
            have HS1 := Lib.hid (hsn.out.trans (Crc.bit_even ho))
            clear ho
            go_wp2
            go_round
            case rel => exact ⟨j + 1, by omega, by go_num, by rw [HS1.out]⟩
            case measure => simp [intOf]; omega
        · obtain rfl : j = 8 := by omega
          go_wp2
          go_round
          case rel => exact ⟨k + 1, by omega, by go_num, by rw [HX.out]⟩
          case measure => simp [intOf]; omega
    · obtain rfl : k = n := by omega
      have HT : Hid (zs.take k = zs) := Lib.hid (List.take_of_length_le (by rw [HN.out]; omega))
      have hu0 := HU.out.1
      have hu1 := HU.out.2
      go_wp2
      rw [HT.out]
      go_ret
      exact ⟨rfl, rfl⟩

end Go.Proofs.Ytipmkddcdnbihaa.Seal
/- Plain facts about frames: what a frame is, and what is opened. No program in sight. -/
namespace Go.Proofs.Ytipmkddcdnbihaa.Frm
open Le (le of)
/-- What stands ahead of the sum. -/
def head (kind n : Int) : List Int := le 2 53021 ++ le 2 kind ++ le 4 n
def frame (kind : Int) (b : List Int) : List Int := head kind b.length ++ le 4 (Crc.sum (head kind b.length ++ b)) ++ b
def mOf (xs : List Int) : Int := of (xs.take 2)
def kOf (xs : List Int) : Int := of ((xs.drop 2).take 2)
def nOf (xs : List Int) : Int := of ((xs.drop 4).take 4)
def sOf (xs : List Int) : Int := of ((xs.drop 8).take 4)
def loadOf (xs : List Int) : List Int := (xs.drop 12).take (nOf xs).toNat
/-- Is there a frame's head, and room for what it bears? -/
def form (xs : List Int) : Prop := 12 ≤ xs.length ∧ mOf xs = 53021 ∧ nOf xs ≤ 65536 ∧ nOf xs ≤ xs.length - 12
def good (xs : List Int) : Prop := Crc.sum (xs.take 8 ++ loadOf xs) = sOf xs
instance (xs : List Int) : Decidable (form xs) := by unfold form; infer_instance
instance (xs : List Int) : Decidable (good xs) := by unfold good; infer_instance
theorem head_length (kind n : Int) : (head kind n).length = 8 := by simp [head, Le.le_length]
theorem head_u8 (kind n : Int) : Le.U8s (head kind n) := by
  intro x hx
  simp only [head, List.mem_append] at hx
  rcases hx with (h | h) | h
  · exact Le.le_u8 _ _ x h
  · exact Le.le_u8 _ _ x h
  · exact Le.le_u8 _ _ x h
theorem frame_length (kind : Int) (b : List Int) : (frame kind b).length = 12 + b.length := by simp [frame, head_length, Le.le_length]; omega
theorem frame_u8 (kind : Int) (b : List Int) (h : Le.U8s b) : Le.U8s (frame kind b) := by
  intro x hx
  simp only [frame, List.mem_append] at hx
  rcases hx with (h1 | h1) | h1
  · exact head_u8 _ _ x h1
  · exact Le.le_u8 _ _ x h1
  · exact h x h1
theorem nOf_nonneg (xs : List Int) (h : Le.U8s xs) : 0 ≤ nOf xs := (Le.of_bound _ fun x hx => h x (List.mem_of_mem_drop (List.mem_of_mem_take hx))).1
theorem loadOf_length (xs : List Int) (h : Le.U8s xs) (hf : form xs) : ((loadOf xs).length : Int) = nOf xs := by
  have := nOf_nonneg xs h
  unfold form at hf
  simp only [loadOf, List.length_take, List.length_drop]
  omega
theorem take_app {a b : List Int} {n : Nat} (h : a.length = n) : (a ++ b).take n = a := by subst h; simp
theorem drop_app {a b : List Int} {n : Nat} (h : a.length = n) : (a ++ b).drop n = b := by subst h; simp
/-- What is framed is opened, with anything behind it. -/
theorem open_frame (kind : Int) (b more : List Int) (hk0 : 0 ≤ kind) (hk1 : kind < 65536) (_ : Le.U8s b) (hl : b.length ≤ 65536) :
    form (frame kind b ++ more) ∧ good (frame kind b ++ more) ∧ kOf (frame kind b ++ more) = kind ∧ nOf (frame kind b ++ more) = b.length ∧ loadOf (frame kind b ++ more) = b := by
  have hs := Crc.sum_u32 (head kind b.length ++ b)
  have e : frame kind b ++ more = le 2 53021 ++ (le 2 kind ++ (le 4 b.length ++ (le 4 (Crc.sum (head kind b.length ++ b)) ++ (b ++ more)))) := by simp [frame, head]
  have e1 : mOf (frame kind b ++ more) = 53021 := by rw [e, mOf, take_app (Le.le_length _ _)]; rfl
  have d2 : (frame kind b ++ more).drop 2 = le 2 kind ++ (le 4 b.length ++ (le 4 (Crc.sum (head kind b.length ++ b)) ++ (b ++ more))) := by rw [e, drop_app (Le.le_length _ _)]
  have d4 : (frame kind b ++ more).drop 4 = le 4 b.length ++ (le 4 (Crc.sum (head kind b.length ++ b)) ++ (b ++ more)) := by
    rw [show (4 : Nat) = 2 + 2 from rfl, ← List.drop_drop, d2, drop_app (Le.le_length _ _)]
  have d8 : (frame kind b ++ more).drop 8 = le 4 (Crc.sum (head kind b.length ++ b)) ++ (b ++ more) := by
    rw [show (8 : Nat) = 4 + 4 from rfl, ← List.drop_drop, d4, drop_app (Le.le_length _ _)]
  have d12 : (frame kind b ++ more).drop 12 = b ++ more := by
    rw [show (12 : Nat) = 8 + 4 from rfl, ← List.drop_drop, d8, drop_app (Le.le_length _ _)]
  have e2 : kOf (frame kind b ++ more) = kind := by rw [kOf, d2, take_app (Le.le_length _ _), Le.of_le_lt _ _ hk0 hk1]
  have e3 : nOf (frame kind b ++ more) = b.length := by rw [nOf, d4, take_app (Le.le_length _ _), Le.of_le_lt _ _ (by omega) (by omega)]
  have e4 : sOf (frame kind b ++ more) = Crc.sum (head kind b.length ++ b) := by rw [sOf, d8, take_app (Le.le_length _ _), Le.of_le_lt _ _ hs.1 hs.2]
  have e5 : loadOf (frame kind b ++ more) = b := by rw [loadOf, e3, d12]; exact take_app (by simp)
  have e6 : (frame kind b ++ more).take 8 = head kind b.length := by
    have : frame kind b ++ more = head kind b.length ++ (le 4 (Crc.sum (head kind b.length ++ b)) ++ (b ++ more)) := by simp [frame]
    rw [this]; exact take_app (head_length _ _)
  refine ⟨⟨by simp [frame_length]; omega, e1, by rw [e3]; omega, by rw [e3]; simp [frame_length]; omega⟩, ?_, e2, e3, e5⟩
  rw [good, e5, e6, e4]
/-- The frames that bytes begin with: where each stands, its kind, and what it bears. -/
def scan : Nat → Int → List Int → List (Int × Int × List Int)
  | 0, _, _ => []
  | f + 1, p, xs => if form xs ∧ good xs then (p, kOf xs, loadOf xs) :: scan f (p + 12 + nOf xs) (xs.drop (12 + (nOf xs).toNat)) else []
/-- How many bytes these are. -/
def used : Nat → Int → List Int → Int
  | 0, p, _ => p
  | f + 1, p, xs => if form xs ∧ good xs then used f (p + 12 + nOf xs) (xs.drop (12 + (nOf xs).toNat)) else p
theorem scan_stop {f : Nat} {p : Int} {xs : List Int} (h : ¬ (form xs ∧ good xs)) : scan f p xs = [] ∧ used f p xs = p := by
  cases f with
  | zero => exact ⟨rfl, rfl⟩
  | succ f => exact ⟨if_neg h, if_neg h⟩
theorem scan_go {f : Nat} {p : Int} {xs : List Int} (h : form xs ∧ good xs) (hl : xs.length ≤ f) :
    ∃ g, f = g + 1 ∧ scan f p xs = (p, kOf xs, loadOf xs) :: scan g (p + 12 + nOf xs) (xs.drop (12 + (nOf xs).toNat)) ∧ used f p xs = used g (p + 12 + nOf xs) (xs.drop (12 + (nOf xs).toNat)) ∧ (xs.drop (12 + (nOf xs).toNat)).length ≤ g := by
  cases f with
  | zero => have := h.1.1; omega
  | succ f => exact ⟨f, rfl, if_pos h, if_pos h, by simp; omega⟩
end Go.Proofs.Ytipmkddcdnbihaa.Frm
namespace Go.Proofs.Ytipmkddcdnbihaa.SealFrame
open Go.RowKit Base

set_option maxHeartbeats 400000 in
set_option maxRecDepth 100000 in
theorem frame_none (kind : Int) (A : Option Addr) (n c : Nat) (w : World) (hn : 65536 < n) (hm : n ≤ 9223372036854775807) :
    Calls Try.prog 182 #[.int .u16 kind, .slice A n c] w fun e w' => e = .returned (.slice none 0 0) ∧ w = w' := by
  go_enter Try.func182, Try.ntmps182
  go_wp2
  go_ret
  exact ⟨rfl, rfl⟩

set_option maxHeartbeats 400000 in
set_option maxRecDepth 100000 in
theorem frame_calls (kind : Int) (A : Option Addr) (n c : Nat) (xs : List Int) (w : World) (hk0 : 0 ≤ kind) (hk1 : kind < 65536) (hr : Rd w .u8 A n xs) (hn : n ≤ 65536) :
    Calls Try.prog 182 #[.int .u16 kind, .slice A n c] w fun e w' => ∃ A' c', e = .returned (.slice A' (12 + n) c') ∧ Own w' (fun i => w.heap.size ≤ i) 5 1 (.slice A' (12 + n) c') (12 + n) (nums .u8 (Frm.frame kind xs)) ∧ Below w.heap.size w w' := by
  have HR := Lib.hid hr
  clear hr
  go_enter Try.func182, Try.ntmps182
  go_wp2_with fail
  refine (Pack.num_calls (fun i => w.heap.size ≤ i) w.heap.size [] 53021 2 _ (by intro i hi; simp at hi; omega) (Pack.writer_new _ w (Nat.le_refl _)) (by omega) (by omega) (by omega) (by omega) (by simp)).mono ?_
  rintro e w1 ⟨rfl, hw1, hc1⟩
  have HW1 := Lib.hid hw1
  have HC1 := Lib.hid (((Chg.refl _ _).alloc _).trans hc1)
  clear hw1 hc1
  go_wp2_with fail
  refine (Pack.num_calls (fun i => w.heap.size ≤ i) w.heap.size _ kind 2 _ (by intro i hi; exact Nat.le_trans HC1.out.size hi) HW1.out (by omega) (by omega) (by omega) (by omega) (by simp [Le.le_length])).mono ?_
  rintro e w2 ⟨rfl, hw2, hc2⟩
  have HW2 := Lib.hid hw2
  have HC2 := Lib.hid (HC1.out.trans hc2)
  clear hw2 hc2
  go_wp2_with fail
  refine (Pack.num_calls (fun i => w.heap.size ≤ i) w.heap.size _ n 4 _ (by intro i hi; exact Nat.le_trans HC2.out.size hi) HW2.out (by omega) (by omega) (by omega) (by omega) (by simp [Le.le_length])).mono ?_
  rintro e w3 ⟨rfl, hw3, hc3⟩
  have hh : [] ++ Le.le (2 : Int).toNat 53021 ++ Le.le (2 : Int).toNat kind ++ Le.le (4 : Int).toNat n = Frm.head kind n := rfl
  rw [hh] at hw3
  have HW3 := Lib.hid hw3
  have HC3 := Lib.hid (HC2.out.trans hc3)
  clear hw3 hc3 hh
  go_wp2_with fail
  refine (Pack.bytes_calls (fun i => w.heap.size ≤ i) w.heap.size _ _ HW3.out (by rw [Frm.head_length]; omega)).mono ?_
  rintro e w4 ⟨A4, c4, rfl, ho4, hb4⟩
  have HW4 := Lib.hid (HW3.out.below hb4)
  have HC4 := Lib.hid (HC3.out.trans (Below.chg hb4))
  have HR4 := Lib.hid (HR.out.below HC4.out.below)
  have HH4 := Lib.hid (ho4.rd HW3.out.wf)
  clear ho4 hb4
  go_wp2_with fail
  refine (Seal.sum_calls _ _ _ _ _ HH4.out).mono ?_
  rintro e w' ⟨rfl, rfl⟩
  go_wp2_with fail
  refine (Seal.go_calls _ _ _ _ _ _ (Crc.sum_u32 _) HR4.out).mono ?_
  rintro e w' ⟨rfl, rfl⟩
  have hs := Crc.sumOn_u32 (Crc.sum_u32 (Frm.head kind n)) xs
  have hs0 := hs.1
  have hs1 := hs.2
  have hsa : Crc.sumOn (Crc.sum (Frm.head kind n)) xs = Crc.sum (Frm.head kind n ++ xs) := Crc.sumOn_append _ _ _
  rw [hsa] at hs0 hs1 ⊢
  clear hs hsa
  go_wp2_with fail
  refine (Pack.num_calls (fun i => w.heap.size ≤ i) w.heap.size _ (Crc.sum (Frm.head kind n ++ xs)) 4 _ (by intro i hi; exact Nat.le_trans HC4.out.size hi) HW4.out (by omega) (by omega) (by omega) (by omega) (by rw [Frm.head_length]; omega)).mono ?_
  rintro e w5 ⟨rfl, hw5, hc5⟩
  have HW5 := Lib.hid hw5
  have HC5 := Lib.hid (HC4.out.trans hc5)
  have HR5 := Lib.hid (HR.out.below HC5.out.below)
  clear hw5 hc5
  go_wp2_with fail
  refine (Pack.wraw_calls (fun i => w.heap.size ≤ i) w.heap.size _ _ _ _ _ _ (by intro i hi; exact Nat.le_trans HC5.out.size hi) HW5.out HR5.out (by simp [Frm.head_length, Le.le_length]) (by omega)).mono ?_
  rintro e w6 ⟨rfl, hw6, hc6⟩
  have hl := HR.out.len
  have hh : Frm.head kind n ++ Le.le (4 : Int).toNat (Crc.sum (Frm.head kind n ++ xs)) ++ xs = Frm.frame kind xs := by unfold Frm.frame; rw [hl]; rfl
  rw [hh] at hw6
  have hfl : (Frm.frame kind xs).length = 12 + n := by rw [Frm.frame_length, hl]
  have HFL := Lib.hid hfl
  have HW6 := Lib.hid hw6
  have HC6 := Lib.hid (HC5.out.trans hc6)
  clear hw6 hc6 hh hl hfl
  go_wp2_with fail
  refine (Pack.bytes_calls (fun i => w.heap.size ≤ i) w.heap.size _ _ HW6.out (by rw [HFL.out]; omega)).mono ?_
  rintro e w7 ⟨A7, c7, rfl, ho7, hb7⟩
  rw [HFL.out] at ho7 ⊢
  have HO7 := Lib.hid (ho7.mono fun i _ h => Nat.le_trans HC6.out.size h)
  have HB7 := Lib.hid (HC6.out.trans (Below.chg hb7)).below
  clear ho7 hb7
  go_wp2_with fail
  go_ret
  exact ⟨A7, c7, rfl, HO7.out, HB7.out⟩
end Go.Proofs.Ytipmkddcdnbihaa.SealFrame
namespace Go.Proofs.Ytipmkddcdnbihaa.SealOpen
open Go.RowKit Base
open Frm (mOf kOf nOf sOf loadOf form good)
open Pack (rn rx rt)

theorem rn_yes {k : Nat} {xs : List Int} (h : k ≤ xs.length) : rn k xs = Le.of (xs.take k) := if_pos h
theorem rx_yes {k : Nat} {xs : List Int} (h : k ≤ xs.length) : rx k xs = xs.drop k := if_pos h
theorem rt_yes {k : Nat} {xs : List Int} {t : Bool} (h : k ≤ xs.length) : rt k xs t = t := if_pos h
theorem torn_short {xs : List Int} (h : xs.length < 12) : rt 4 (rx 4 (rx 2 (rx 2 xs))) (rt 4 (rx 2 (rx 2 xs)) (rt 2 (rx 2 xs) (rt 2 xs false))) = true := by
  by_cases h1 : 2 ≤ xs.length
  · rw [rx_yes h1, rt_yes h1]
    by_cases h2 : 2 ≤ (xs.drop 2).length
    · rw [rx_yes h2, rt_yes h2]
      by_cases h3 : 4 ≤ ((xs.drop 2).drop 2).length
      · rw [rx_yes h3, rt_yes h3]
        exact if_neg (by simp at *; omega)
      · have e : rx 4 ((xs.drop 2).drop 2) = [] := if_neg h3
        rw [e]; rfl
    · have e : rx 2 (xs.drop 2) = [] := if_neg h2
      rw [e]; rfl
  · have e : rx 2 xs = [] := if_neg h1
    rw [e]; rfl
theorem long_all {xs : List Int} (h : 12 ≤ xs.length) : rn 2 xs = mOf xs ∧ rn 2 (rx 2 xs) = kOf xs ∧ rn 4 (rx 2 (rx 2 xs)) = nOf xs ∧ rn 4 (rx 4 (rx 2 (rx 2 xs))) = sOf xs ∧ rx 4 (rx 4 (rx 2 (rx 2 xs))) = xs.drop 12 ∧
    rt 4 (rx 4 (rx 2 (rx 2 xs))) (rt 4 (rx 2 (rx 2 xs)) (rt 2 (rx 2 xs) (rt 2 xs false))) = false := by
  rw [rx_yes (k := 2) (xs := xs) (by omega), rx_yes (k := 2) (by simp; omega), rx_yes (k := 4) (by simp; omega), rx_yes (k := 4) (by simp; omega), rt_yes (k := 4) (by simp; omega), rt_yes (k := 4) (by simp; omega), rt_yes (k := 2) (by simp; omega), rt_yes (k := 2) (by omega),
    rn_yes (k := 2) (xs := xs) (by omega), rn_yes (k := 2) (by simp; omega), rn_yes (k := 4) (by simp; omega), rn_yes (k := 4) (by simp; omega)]
  simp [mOf, kOf, nOf, sOf, List.drop_drop]
theorem rn_lo {k : Nat} {xs : List Int} (h : Le.U8s xs) (hk : k ≤ 8) : 0 ≤ rn k xs ∧ rn k xs < 18446744073709551616 := by
  unfold rn
  split
  · rename_i hl
    have hb := Le.of_take_bound h rfl hl
    have : (256 : Int) ^ k ≤ 256 ^ 8 := by
      have h1 : (256 : Nat) ^ k ≤ 256 ^ 8 := Nat.pow_le_pow_right (by omega) hk
      have h2 : ((256 ^ k : Nat) : Int) ≤ ((256 ^ 8 : Nat) : Int) := Int.ofNat_le.2 h1
      simpa using h2
    omega
  · omega
theorem rx_u8 {k : Nat} {xs : List Int} (h : Le.U8s xs) : Le.U8s (rx k xs) := by
  unfold rx
  split
  · exact fun x hx => h x (List.mem_of_mem_drop hx)
  · intro x hx; cases hx
theorem rx_length (k : Nat) (xs : List Int) : (rx k xs).length ≤ xs.length := by
  unfold rx
  split <;> simp

/-- What an opened frame comes to. -/
def Opened (xs : List Int) (w : World) (e : Ending) (w' : World) : Prop :=
  Below w.heap.size w w' ∧ ((¬ form xs ∧ e = .returned (.tuple #[.int .u16 0, .slice none 0 0, .int .i64 0, .int .i64 21])) ∨
    (form xs ∧ ¬ good xs ∧ e = .returned (.tuple #[.int .u16 0, .slice none 0 0, .int .i64 0, .int .i64 22])) ∨
    (form xs ∧ good xs ∧ ∃ A' c', e = .returned (.tuple #[.int .u16 (kOf xs), .slice A' (nOf xs).toNat c', .int .i64 (12 + nOf xs), .int .i64 0]) ∧ Own w' (fun i => w.heap.size ≤ i) 5 1 (.slice A' (nOf xs).toNat c') (nOf xs).toNat (nums .u8 (loadOf xs))))
set_option maxHeartbeats 800000 in
set_option maxRecDepth 100000 in
theorem open_calls (A : Option Addr) (n c : Nat) (xs : List Int) (w : World) (hr : Rd w .u8 A n xs) (hc : n ≤ c) (h0 : A = none → c = 0) (hn : n ≤ 1099511627776) :
    Calls Try.prog 176 #[.slice A n c] w (Opened xs w) := by
  have HR := Lib.hid hr
  have HL := Lib.hid hr.len
  have HU : Hid (Le.U8s xs) := Lib.hid fun x hx => wf_u8 (hr.wf x hx)
  have H0 := Lib.hid h0
  clear hr h0
  go_enter Try.func176, Try.ntmps176
  go_wp2_with fail
  refine (Pack.read_calls A n c xs w HR.out hc H0.out).mono ?_
  rintro e w1 ⟨rfl, hr1, hb1⟩
  have HR1 := Lib.hid hr1
  have HC1 := Lib.hid (Below.chg (S := fun i => w.heap.size ≤ i) hb1)
  clear hr1 hb1
  go_wp2_with fail
  refine (Pack.rnum_calls w.heap.size _ _ 2 _ HR1.out (by omega) (by omega) (by rw [HL.out]; omega)).mono ?_
  rintro e w2 ⟨rfl, hr2, hc2⟩
  have HR2 := Lib.hid hr2
  have HC2 := Lib.hid (HC1.out.step hc2 fun i _ h => by omega)
  clear hr2 hc2
  go_wp2_with fail
  refine (Pack.rnum_calls w.heap.size _ _ 2 _ HR2.out (by omega) (by omega) (by have := rx_length 2 xs; rw [HL.out] at this; exact Nat.le_trans this hn)).mono ?_
  rintro e w3 ⟨rfl, hr3, hc3⟩
  have HR3 := Lib.hid hr3
  have HC3 := Lib.hid (HC2.out.step hc3 fun i _ h => by omega)
  clear hr3 hc3
  go_wp2_with fail
  refine (Pack.rnum_calls w.heap.size _ _ 4 _ HR3.out (by omega) (by omega) (by have := rx_length 2 xs; have := rx_length 2 (rx 2 xs); rw [HL.out] at *; exact Nat.le_trans (Nat.le_trans ‹_› ‹_›) hn)).mono ?_
  rintro e w4 ⟨rfl, hr4, hc4⟩
  have HR4 := Lib.hid hr4
  have HC4 := Lib.hid (HC3.out.step hc4 fun i _ h => by omega)
  clear hr4 hc4
  go_wp2_with fail
  refine (Pack.rnum_calls w.heap.size _ _ 4 _ HR4.out (by omega) (by omega) (by have := rx_length 2 xs; have := rx_length 2 (rx 2 xs); have := rx_length 4 (rx 2 (rx 2 xs)); rw [HL.out] at *; simp at *; omega)).mono ?_
  rintro e w5 ⟨rfl, hr5, hc5⟩
  have HR5 := Lib.hid hr5
  have HC5 := Lib.hid (HC4.out.step hc5 fun i _ h => by omega)
  clear hr5 hc5
  have hm := rn_lo (k := 2) HU.out (by omega)
  by_cases hs : xs.length < 12
  · have hr5 := HR5.out
    simp only [show Int.toNat 2 = 2 from rfl, show Int.toNat 4 = 4 from rfl] at hr5
    rw [torn_short hs] at hr5
    have HR6 := Lib.hid hr5
    clear hr5 hm
    go_wp2_with fail
    refine (Pack.torn_calls _ _ _ _ HR6.out).mono ?_
    rintro e w6 ⟨rfl, rfl⟩
    go_wp2_with fail
    exact bodyPost_ret (v := .tuple #[.int .u16 0, .slice none 0 0, .int .i64 0, .int .i64 21]) (by simp [results, Try.results176, go_sem]) rfl ⟨HC5.out.below, .inl ⟨fun h => by have := h.1; omega, rfl⟩⟩
  · have hlen : 12 ≤ xs.length := by omega
    obtain ⟨e1, e2, e3, e4, e5, e6⟩ := long_all hlen
    have hr5 := HR5.out
    simp only [show Int.toNat 2 = 2 from rfl, show Int.toNat 4 = 4 from rfl] at hr5
    rw [e5, e6] at hr5
    have HR6 := Lib.hid hr5
    rw [e1] at hm
    have hm0 := hm.1
    have hm1 := hm.2
    have hk := rn_lo (k := 2) (rx_u8 (k := 2) HU.out) (by omega)
    have hnn := Le.of_take_bound (n := (xs.drop 4).length) (fun x hx => HU.out x (List.mem_of_mem_drop hx)) rfl (j := 4) (by simp; omega)
    have hss := Le.of_take_bound (n := (xs.drop 8).length) (fun x hx => HU.out x (List.mem_of_mem_drop hx)) rfl (j := 4) (by simp; omega)
    have hkk := Le.of_take_bound (n := (xs.drop 2).length) (fun x hx => HU.out x (List.mem_of_mem_drop hx)) rfl (j := 2) (by simp; omega)
    change 0 ≤ nOf xs ∧ nOf xs < 256 ^ 4 at hnn
    change 0 ≤ sOf xs ∧ sOf xs < 256 ^ 4 at hss
    change 0 ≤ kOf xs ∧ kOf xs < 256 ^ 2 at hkk
    have hn0 := hnn.1
    have hn1 : nOf xs < 4294967296 := hnn.2
    have hs0 := hss.1
    have hs1 : sOf xs < 4294967296 := hss.2
    have hk0 := hkk.1
    have hk1 : kOf xs < 65536 := hkk.2
    simp only [show Int.toNat 2 = 2 from rfl, show Int.toNat 4 = 4 from rfl, e1, e2, e3, e4]
    clear e1 e2 e3 e4 e5 e6 hr5 hm hk hnn hss hkk
    go_wp2_with fail
    refine (Pack.torn_calls _ _ _ _ HR6.out).mono ?_
    rintro e w6 ⟨rfl, rfl⟩
    by_cases hme : mOf xs = 53021
    · have hmb : (mOf xs != 53021) = false := by rw [hme]; rfl
      have HME := Lib.hid hme
      clear hme
      by_cases hnl : 65536 < nOf xs
      · go_wp2_with fail
        exact bodyPost_ret (v := .tuple #[.int .u16 0, .slice none 0 0, .int .i64 0, .int .i64 21]) (by simp [results, Try.results176, go_sem]) rfl ⟨HC5.out.below, .inl ⟨fun h => by have := h.2.2.1; omega, rfl⟩⟩
      · go_wp2_with fail
        refine (Pack.left_calls _ _ _ _ HR6.out).mono ?_
        rintro e w6 ⟨rfl, rfl⟩
        have hdl : (xs.drop 12).length = xs.length - 12 := by simp
        rw [hdl]
        clear hdl
        by_cases hnf : xs.length - 12 < nOf xs
        · go_wp2_with fail
          exact bodyPost_ret (v := .tuple #[.int .u16 0, .slice none 0 0, .int .i64 0, .int .i64 21]) (by simp [results, Try.results176, go_sem]) rfl ⟨HC5.out.below, .inl ⟨fun h => by have := h.2.2.2; omega, rfl⟩⟩
        · have hform : form xs := ⟨hlen, HME.out, by omega, by omega⟩
          have HFO := Lib.hid hform
          have hxl : xs.length ≤ 1099511627776 := by rw [HL.out]; exact hn
          have hA0 := HR.out.cell (by have := HL.out; omega)
          obtain ⟨ad, rfl, _⟩ := hA0
          clear hform
          go_wp2_with fail
          refine (Pack.rraw_yes _ _ _ _ _ HR6.out hn0 (by simp; omega) (by simp; omega)).mono ?_
          rintro e w7 ⟨A7, c7, rfl, ho7, _, hc7⟩
          have HO7 := Lib.hid (ho7.mono fun i _ h => Nat.le_trans HC5.out.size h)
          have HC7 := Lib.hid (HC5.out.step hc7 fun i _ h => by omega)
          have hwl : ∀ x ∈ loadOf xs, (Lit.int .u8 x).wf = true := fun x hx => HR.out.wf x (List.mem_of_mem_drop (List.mem_of_mem_take hx))
          have HRL : Hid (Rd w7 .u8 A7 (nOf xs).toNat (loadOf xs)) := Lib.hid (HO7.out.rd hwl)
          have HR8 := Lib.hid (rd_take (HR.out.below HC7.out.below) (m := 8) (by have := HL.out; omega))
          have hc8 : 8 ≤ n := by have := HL.out; omega
          clear ho7 hc7 hwl
          go_wp2_with fail
          refine (Seal.sum_calls _ _ _ _ _ HR8.out).mono ?_
          rintro e w' ⟨rfl, rfl⟩
          go_wp2_with fail
          refine (Seal.go_calls _ _ _ _ _ _ (Crc.sum_u32 _) HRL.out).mono ?_
          rintro e w' ⟨rfl, rfl⟩
          have hsa : Crc.sumOn (Crc.sum (List.take 8 xs)) (loadOf xs) = Crc.sum (List.take 8 xs ++ loadOf xs) := Crc.sumOn_append _ _ _
          rw [hsa]
          clear hsa
          by_cases hgd : Crc.sum (List.take 8 xs ++ loadOf xs) = sOf xs
          · have hgb : (Crc.sum (List.take 8 xs ++ loadOf xs) != sOf xs) = false := by rw [hgd]; simp
            have HGD := Lib.hid hgd
            clear hgd
            go_wp2_with fail
            refine bodyPost_ret (v := .tuple #[.int .u16 (kOf xs), .slice A7 (nOf xs).toNat c7, .int .i64 (12 + nOf xs), .int .i64 0]) (by simp [results, Try.results176, go_sem]) rfl ⟨HC7.out.below, .inr (.inr ⟨HFO.out, HGD.out, A7, c7, rfl, HO7.out⟩)⟩
          · have hgb : (Crc.sum (List.take 8 xs ++ loadOf xs) != sOf xs) = true := by rw [bne_iff_ne]; exact hgd
            have HGD := Lib.hid hgd
            clear hgd
            go_wp2_with fail
            exact bodyPost_ret (v := .tuple #[.int .u16 0, .slice none 0 0, .int .i64 0, .int .i64 22]) (by simp [results, Try.results176, go_sem]) rfl ⟨HC7.out.below, .inr (.inl ⟨HFO.out, HGD.out, rfl⟩)⟩
    · have hmb : (mOf xs != 53021) = true := by rw [bne_iff_ne]; exact hme
      go_wp2_with fail
      exact bodyPost_ret (v := .tuple #[.int .u16 0, .slice none 0 0, .int .i64 0, .int .i64 21]) (by simp [results, Try.results176, go_sem]) rfl ⟨HC5.out.below, .inl ⟨fun h => hme h.2.1, rfl⟩⟩
end Go.Proofs.Ytipmkddcdnbihaa.SealOpen
namespace Go.Proofs.Ytipmkddcdnbihaa.Ref10
open Go.RowKit Base Ref01

set_option maxHeartbeats 400000 in
set_option maxRecDepth 100000 in
theorem frame_calls (kind : Int) (A : Option Addr) (n c : Nat) (xs : List Int) (w : World) (hk0 : 0 ≤ kind) (hk1 : kind < 65536) (hr : Rd w .u8 A n xs) (hn : n ≤ 65536) :
    Calls Try.prog 237 #[.int .u16 kind, .slice A n c] w fun e w' => ∃ A' c', e = .returned (.slice A' (12 + n) c') ∧ Own w' (fun i => w.heap.size ≤ i) 5 1 (.slice A' (12 + n) c') (12 + n) (nums .u8 (Frm.frame kind xs)) ∧ Below w.heap.size w w' := by
  have HR := Lib.hid hr
  have HL := Lib.hid hr.len
  clear hr
  go_enter Try.func237, Try.ntmps237
  go_wp2_with fail
  refine (num_calls 53021 2 _ (by omega) (by omega) (by omega) (by omega)).mono ?_
  rintro e w1 ⟨A1, c1, rfl, ho1, hb1⟩
  have HB1 := Lib.hid hb1
  have HR1 := Lib.hid (ho1.rd fun x hx => by have := Le.le_u8 _ _ x hx; exact u8_wf this.1 this.2)
  clear ho1 hb1
  go_wp2_with fail
  refine (num_calls kind 2 _ (by omega) (by omega) (by omega) (by omega)).mono ?_
  rintro e w2 ⟨A2, c2, rfl, ho2, hb2⟩
  have HB2 := Lib.hid (HB1.out.trans (hb2.mono HB1.out.size))
  have HR1 := Lib.hid (HR1.out.below hb2)
  have HR2 := Lib.hid (ho2.rd fun x hx => by have := Le.le_u8 _ _ x hx; exact u8_wf this.1 this.2)
  clear ho2 hb2
  go_wp2_with fail
  refine (num_calls n 4 _ (by omega) (by omega) (by omega) (by omega)).mono ?_
  rintro e w3 ⟨A3, c3, rfl, ho3, hb3⟩
  have HB3 := Lib.hid (HB2.out.trans (hb3.mono HB2.out.size))
  have HR1 := Lib.hid (HR1.out.below hb3)
  have HR2 := Lib.hid (HR2.out.below hb3)
  have HR3 := Lib.hid (ho3.rd fun x hx => by have := Le.le_u8 _ _ x hx; exact u8_wf this.1 this.2)
  clear ho3 hb3
  go_wp2_with fail
  have hfl : flat [(A1, 2, c1, Le.le 2 53021), (A2, 2, c2, Le.le 2 kind), (A3, 4, c3, Le.le 4 n)] = Frm.head kind n := by simp [flat, Frm.head]
  refine (join_calls _ 3 3 [(A1, 2, c1, Le.le 2 53021), (A2, 2, c2, Le.le 2 kind), (A3, 4, c3, Le.le 4 n)] _ (rdrows_new w3 _ [(A1, 2, c1, Le.le 2 53021), (A2, 2, c2, Le.le 2 kind), (A3, 4, c3, Le.le 4 n)] _ rfl (by
    intro r hr
    simp only [List.mem_cons, List.not_mem_nil, or_false] at hr
    rcases hr with rfl | rfl | rfl
    · exact HR1.out
    · exact HR2.out
    · exact HR3.out)) (by omega) (by rw [hfl, Frm.head_length]; omega)).mono ?_
  rw [hfl, Frm.head_length]
  rintro e w4 ⟨A4, c4, rfl, ho4, hb4⟩
  have HB4 := Lib.hid ((HB3.out.trans ((below_new w3 (.cells #[.slice A1 2 c1, .slice A2 2 c2, .slice A3 4 c3] 55)).mono HB3.out.size)).trans (hb4.mono (by have := HB3.out.size; simp; omega)))
  have HR4 := Lib.hid (ho4.rd fun x hx => by have := Frm.head_u8 _ _ x hx; exact u8_wf this.1 this.2)
  clear ho4 hb4 hfl HR1 HR2 HR3
  have HR4a := Lib.hid (HR4.out.below (below_new _ (.cells #[] 5)))
  have HN4 := Lib.hid HB4.out.size
  go_wp2_with (at_builtin; refine wpList_app _ rfl (.tmp 17) (.tmp 18) 55 rfl (fun i => w4.heap.size ≤ i) 5 .u8 1 Try.underlying55 Pack.info_u8 (by decide) (.slice (some ⟨w4.heap.size, 0, none⟩) 0 0) 0 [] rfl ?c1 A4 8 c4 (Frm.head kind n) rfl HR4a.out ?c2 ?c3 ?_)
  case c1 => exact ⟨World.ownsRow_lit w4 #[] 0 (Nat.zero_le _) (by simp only [maxLen]; omega) rfl, by simp [Value.ownBlock]⟩
  case c2 => omega
  case c3 => intro i hi; simp at hi; omega
  intro A5 c5 w5 ho5 hc5
  try simp only [Nat.zero_add, List.nil_append] at ho5
  have hb5 : Below w4.heap.size w4 w5 := (((Chg.refl _ _).alloc _).step hc5 fun i hi h => by simp [Value.ownBlock] at h; omega).below
  have HO5 := Lib.hid ho5
  have HB5 := Lib.hid (HB4.out.trans (hb5.mono HB4.out.size))
  have HS5 := Lib.hid hb5.size
  have HR5 := Lib.hid (HR.out.below HB5.out)
  have HB45 := Lib.hid hb5
  clear ho5 hc5 hb5 HR4a
  go_wp2_with (at_builtin; refine wpList_app _ rfl (.tmp 19) (.tmp 20) 55 rfl (fun i => w4.heap.size ≤ i) 5 .u8 1 Try.underlying55 Pack.info_u8 (by decide) (.slice A5 8 c5) 8 (Frm.head kind n) rfl HO5.out A n c xs rfl HR5.out ?c2 ?c3 ?_)
  case c2 => omega
  case c3 => exact fun i hi => Nat.le_trans HS5.out hi
  intro A6 c6 w6 ho6 hc6
  have hb6 : Chg (fun i => w4.heap.size ≤ i) w5 w6 := hc6.mono fun i _ h => HO5.out.foot i h
  have HB6 := Lib.hid ((Below.chg HB5.out).step hb6 fun i _ h => Nat.le_trans HN4.out h).below
  have HR4 := Lib.hid (HR4.out.below ((Below.chg HB45.out).trans hb6).below)
  have HR6 := Lib.hid (HR.out.below HB6.out)
  have HR7 := Lib.hid (ho6.rd (wf_append (fun x hx => by have := Frm.head_u8 _ _ x hx; exact u8_wf this.1 this.2) HR.out.wf))
  clear ho6 hc6 hb6
  go_wp2_with fail
  refine (Seal.refsum_calls _ _ _ _ _ HR7.out).mono ?_
  rintro e w' ⟨rfl, rfl⟩
  have hs := Crc.sum_u32 (Frm.head kind n ++ xs)
  have hs0 := hs.1
  have hs1 := hs.2
  clear hs
  go_wp2_with fail
  refine (num_calls (Crc.sum (Frm.head kind n ++ xs)) 4 _ (by omega) (by omega) (by omega) (by omega)).mono ?_
  rintro e w7 ⟨A7, c7, rfl, ho7, hb7⟩
  have HB7 := Lib.hid (HB6.out.trans (hb7.mono HB6.out.size))
  have HR4 := Lib.hid (HR4.out.below hb7)
  have HR6 := Lib.hid (HR6.out.below hb7)
  have HR8 := Lib.hid (ho7.rd fun x hx => by have := Le.le_u8 _ _ x hx; exact u8_wf this.1 this.2)
  clear ho7 hb7
  go_wp2_with fail
  have hfl : flat [(A4, 8, c4, Frm.head kind n), (A7, 4, c7, Le.le 4 (Crc.sum (Frm.head kind n ++ xs))), (A, n, c, xs)] = Frm.frame kind xs := by simp [flat, Frm.frame, HL.out]
  refine (join_calls _ 3 3 [(A4, 8, c4, Frm.head kind n), (A7, 4, c7, Le.le 4 (Crc.sum (Frm.head kind n ++ xs))), (A, n, c, xs)] _ (rdrows_new w7 _ [(A4, 8, c4, Frm.head kind n), (A7, 4, c7, Le.le 4 (Crc.sum (Frm.head kind n ++ xs))), (A, n, c, xs)] _ rfl (by
    intro r hr
    simp only [List.mem_cons, List.not_mem_nil, or_false] at hr
    rcases hr with rfl | rfl | rfl
    · exact HR4.out
    · exact HR8.out
    · exact HR6.out)) (by omega) (by rw [hfl, Frm.frame_length, HL.out]; omega)).mono ?_
  rw [hfl, Frm.frame_length, HL.out]
  rintro e w8 ⟨A8, c8, rfl, ho8, hb8⟩
  have hsz8 : w.heap.size ≤ (w7.alloc (.cells #[.slice A4 8 c4, .slice A7 4 c7, .slice A n c] 55)).heap.size := by have := HB7.out.size; simp; omega
  have HB8 := Lib.hid ((HB7.out.trans ((below_new w7 (.cells #[.slice A4 8 c4, .slice A7 4 c7, .slice A n c] 55)).mono HB7.out.size)).trans (hb8.mono hsz8))
  have HO8 := Lib.hid (ho8.mono (S' := fun i => w.heap.size ≤ i) fun i _ h => Nat.le_trans hsz8 h)
  clear ho8 hb8 hfl HR4 HR6 HR8
  go_wp2_with fail
  go_ret
  exact ⟨A8, c8, rfl, HO8.out, HB8.out⟩
end Go.Proofs.Ytipmkddcdnbihaa.Ref10
namespace Go.Proofs.Ytipmkddcdnbihaa.Ref10Open
open Go.RowKit Base
open Frm (mOf kOf nOf sOf loadOf form good)

theorem rd_cut {w : World} {k : IntKind} {A : Option Addr} {n : Nat} {xs : List Int} (h : Rd w k A n xs) {a b : Nat} (hab : a ≤ b) (hb : b ≤ n) : Rd w k (A.map fun x => x.add a) (b - a) ((xs.drop a).take (b - a)) :=
  rd_take (rd_dropMap h (by omega)) (by omega)

/-- The one slice lies in the other's block. -/
def Sub (A' A : Option Addr) : Prop := ∀ ad', A' = some ad' → ∃ ad, A = some ad ∧ ad'.block = ad.block
theorem sub_map (A : Option Addr) (k : Nat) : Sub (A.map fun x => x.add k) A := fun ad' h => by
  rcases A with _ | ad
  · cases h
  · cases h; exact ⟨ad, rfl, block_add _ _⟩
theorem sub_self (A : Option Addr) : Sub A A := fun ad h => ⟨ad, h, rfl⟩
/-- What the document's Open comes to. -/
def ROpened (A : Option Addr) (xs : List Int) (w : World) (e : Ending) (w' : World) : Prop :=
  Ext w w' ∧ ((¬ form xs ∧ e = .returned (.tuple #[.int .u16 0, .slice none 0 0, .int .i64 21])) ∨
    (form xs ∧ ¬ good xs ∧ e = .returned (.tuple #[.int .u16 0, .slice none 0 0, .int .i64 22])) ∨
    (form xs ∧ good xs ∧ ∃ A' c', e = .returned (.tuple #[.int .u16 (kOf xs), .slice A' (nOf xs).toNat c', .int .i64 0]) ∧ Rd w' .u8 A' (nOf xs).toNat (loadOf xs) ∧ Sub A' A ∧ (nOf xs).toNat ≤ c' ∧ (A' = none → c' = 0)))

set_option maxHeartbeats 1600000 in
set_option maxRecDepth 100000 in
theorem open_calls (A : Option Addr) (n c : Nat) (xs : List Int) (w : World) (hr : Rd w .u8 A n xs) (hc : n ≤ c) (hn : n ≤ 1099511627776) :
    Calls Try.prog 185 #[.slice A n c] w (ROpened A xs w) := by
  have HL := Lib.hid hr.len
  have HU : Hid (Le.U8s xs) := Lib.hid fun x hx => wf_u8 (hr.wf x hx)
  by_cases hs : n < 12
  · go_enter Try.func185, Try.ntmps185
    go_wp2_with fail
    go_ret3
    exact ⟨Ext.refl _, .inl ⟨fun h => by have := h.1; rw [HL.out] at this; omega, rfl⟩⟩
  have hA0 := hr.cell (by omega)
  obtain ⟨ad, rfl, hA0⟩ := hA0
  clear hA0
  have hr4 := rd_cut hr (a := 4) (b := 8) (by omega) (by omega)
  have hr0 := rd_take hr (m := 2) (by omega)
  have hr8 := rd_take hr (m := 8) (by omega)
  have hrs := rd_cut hr (a := 8) (b := 12) (by omega) (by omega)
  have hrk := rd_cut hr (a := 2) (b := 4) (by omega) (by omega)
  have hnn := Le.of_bound ((xs.drop 4).take 4) fun x hx => HU.out x (List.mem_of_mem_drop (List.mem_of_mem_take hx))
  have hss := Le.of_bound ((xs.drop 8).take 4) fun x hx => HU.out x (List.mem_of_mem_drop (List.mem_of_mem_take hx))
  have hkk := Le.of_bound ((xs.drop 2).take 2) fun x hx => HU.out x (List.mem_of_mem_drop (List.mem_of_mem_take hx))
  have hmm := Le.of_bound (xs.take 2) fun x hx => HU.out x (List.mem_of_mem_take hx)
  have hl := HL.out
  rw [List.length_take, List.length_drop, Nat.min_eq_left (by omega)] at hnn hss hkk
  rw [List.length_take, Nat.min_eq_left (by omega)] at hmm
  change 0 ≤ nOf xs ∧ nOf xs < 256 ^ 4 at hnn
  change 0 ≤ sOf xs ∧ sOf xs < 256 ^ 4 at hss
  change 0 ≤ kOf xs ∧ kOf xs < 256 ^ 2 at hkk
  change 0 ≤ mOf xs ∧ mOf xs < 256 ^ 2 at hmm
  have hn0 := hnn.1
  have hn1 : nOf xs < 4294967296 := hnn.2
  have hs0 := hss.1
  have hs1 : sOf xs < 4294967296 := hss.2
  have hk0 := hkk.1
  have hk1 : kOf xs < 65536 := hkk.2
  have hm0 := hmm.1
  have hm1 : mOf xs < 65536 := hmm.2
  clear hnn hss hkk hmm hl
  go_enter Try.func185, Try.ntmps185
  go_wp2_with fail
  refine (Ref01.of_calls _ _ _ _ _ hr4 (by omega)).mono ?_
  rintro e w' ⟨rfl, rfl⟩
  have en : Le.of (List.take (8 - 4) (List.drop 4 xs)) = nOf xs := rfl
  have em : Le.of (List.take 2 xs) = mOf xs := rfl
  have es : Le.of (List.take (12 - 8) (List.drop 8 xs)) = sOf xs := rfl
  have ek : Le.of (List.take (4 - 2) (List.drop 2 xs)) = kOf xs := rfl
  rw [en]
  clear en
  go_wp2_with fail
  refine (Ref01.of_calls _ _ _ _ _ hr0 (by omega)).mono ?_
  rintro e w' ⟨rfl, rfl⟩
  rw [em]
  clear em
  have EK := Lib.hid ek
  have ES := Lib.hid es
  clear ek es
  by_cases hme : mOf xs = 53021
  · have hmb : (mOf xs != 53021) = false := by rw [hme]; rfl
    have HME := Lib.hid hme
    clear hme
    by_cases hnl : 65536 < nOf xs
    · go_wp2_with fail
      go_ret3
      exact ⟨Ext.refl _, .inl ⟨fun h => by have := h.2.2.1; omega, rfl⟩⟩
    by_cases hnf : (n : Int) - 12 < nOf xs
    · go_wp2_with fail
      go_ret3
      exact ⟨Ext.refl _, .inl ⟨fun h => by have := h.2.2.2; rw [HL.out] at this; omega, rfl⟩⟩
    have HF : Hid (form xs) := Lib.hid ⟨by rw [HL.out]; omega, HME.out, by omega, by rw [HL.out]; omega⟩
    obtain ⟨N, hN⟩ : ∃ N : Nat, nOf xs = N := ⟨(nOf xs).toNat, by omega⟩
    have HLO : Hid (loadOf xs = (xs.drop 12).take N) := Lib.hid (by rw [loadOf, hN]; rfl)
    have hrl := rd_cut hr (a := 12) (b := 12 + N) (by omega) (by omega)
    have e1 : 12 + N - 12 = N := by omega
    rw [e1, ← HLO.out] at hrl
    have HNN := Lib.hid hN
    rw [hN] at hnl hnf ⊢
    clear hN e1 hn0 hn1
    have hrl1 : c = 12 → Rd w .u8 (some ad) N (loadOf xs) := fun h => by
      obtain rfl : N = 0 := by omega
      rw [HLO.out]
      exact rd_nil _ _ _
    have HRL1 := Lib.hid hrl1
    clear hrl1
    have HW : Hid (∀ x ∈ List.take 8 xs ++ loadOf xs, (Lit.int .u8 x).wf = true) := Lib.hid (wf_append (fun x hx => hr.wf x (List.mem_of_mem_take hx)) (fun x hx => hr.wf x (by rw [HLO.out] at hx; exact List.mem_of_mem_drop (List.mem_of_mem_take hx))))
    have hc8 : (8 : Int) ≤ (c : Int) := by omega
    have hc12 : (12 : Int) ≤ (c : Int) := by omega
    have hn8 : (8 : Int) ≤ (n : Int) := by omega
    by_cases hcc : c = 12
    all_goals
      first | (have hrl2 := HRL1.out hcc; subst hcc) | have hrl2 := hrl
      clear hrl
      go_wp2_with fail
      go_region_held3 (fun _ => True) (trivial) (first
        | (go_at_call 235; refine (Seal.refsum_calls _ _ _ _ _ (ho2.rd HW.out)).mono ?_; rintro e w' ⟨rfl, rfl⟩)
        | (go_at_call 234; refine (Ref01.of_calls _ _ _ _ _ (hrs.ext he2) (by omega)).mono ?_; rintro e w' ⟨rfl, rfl⟩)
        | (refine step_more w _ (by rfl) _ _ _ (by rfl) 5 .u8 1 Try.underlying55 Pack.info_u8 (by decide) _ 0 [] (by rfl) (own_empty (at_new w _) (Nat.le_refl _)) (Ext.new w _).drew (some ad) 8 _ (xs.take 8) (by rfl) (hr8.ext (Ext.new w _).drew) (by omega) ?_; intro A1 c1 w1 ho1 he1)
        | (refine step_more w _ (by rfl) _ _ _ (by rfl) 5 .u8 1 Try.underlying55 Pack.info_u8 (by decide) _ 8 (xs.take 8) (by rfl) ho1 he1 _ N _ (loadOf xs) (by rfl) (hrl2.ext he1) (by omega) ?_; intro A2 c2 w2 ho2 he2))
      rw [ES.out, wrap_u32 hs0 hs1]
      by_cases hgd : Crc.sum (List.take 8 xs ++ loadOf xs) = sOf xs
      · have hgb : (Crc.sum (List.take 8 xs ++ loadOf xs) != sOf xs) = false := by rw [hgd]; simp
        have HGD := Lib.hid hgd
        clear hgd
        go_wp2_with fail
        refine (Ref01.of_calls _ _ _ _ _ (hrk.ext he2) (by omega)).mono ?_
        rintro e w' ⟨rfl, rfl⟩
        rw [EK.out]
        go_wp2_with fail
        go_ret3
        have h1 := hrl2.ext he2
        exact ⟨he2, .inr (.inr ⟨HF.out, HGD.out, _, _, by rw [HNN.out]; rfl, by rw [HNN.out]; exact h1, by first | exact sub_self _ | exact sub_map (some ad) 12, by rw [HNN.out]; simp only [Int.toNat_natCast]; omega, by intro h; first | cases h | (simp at h)⟩)⟩
      · have hgb : (Crc.sum (List.take 8 xs ++ loadOf xs) != sOf xs) = true := by rw [bne_iff_ne]; exact hgd
        have HGD := Lib.hid hgd
        clear hgd
        go_wp2_with fail
        go_ret3
        exact ⟨he2, .inr (.inl ⟨HF.out, HGD.out, rfl⟩)⟩
  · have hmb : (mOf xs != 53021) = true := by rw [bne_iff_ne]; exact hme
    go_wp2_with fail
    go_ret3
    exact ⟨Ext.refl _, .inl ⟨fun h => hme h.2.1, rfl⟩⟩
end Go.Proofs.Ytipmkddcdnbihaa.Ref10Open
namespace Go.Proofs.Ytipmkddcdnbihaa.Scan
open Go.RowKit Base
open Frm (mOf kOf nOf sOf loadOf form good scan used)

/-- A row of frames in memory: where each stands, its kind, and what it bears. -/
structure Row where
  p : Int
  k : Int
  A : Option Addr
  n : Nat
  c : Nat
  l : List Int
def Row.cells (r : Row) : List Value := [.int .i64 r.p, .int .u16 r.k, .slice r.A r.n r.c]
def Row.it (r : Row) : Int × Int × List Int := (r.p, r.k, r.l)
/-- A slice of frames, newer than w0. -/
structure Items (Z : Nat → Prop) (w0 w : World) (e : TypeId) (A : Option Addr) (n c : Nat) (rows : List Row) : Prop where
  len : rows.length = n
  own : New w0 w e 3 A n c (rows.flatMap Row.cells)
  rd : ∀ r ∈ rows, Rd w .u8 r.A r.n r.l ∧ ∀ e', 5 ≠ e' → Apt w0 e' w r.A r.n
  cap : ∀ r ∈ rows, r.n ≤ r.c ∧ (r.A = none → r.c = 0)
  src : ∀ r ∈ rows, 0 < r.n → ∀ ad, r.A = some ad → Z ad.block
theorem Items.ext {Z : Nat → Prop} {w0 w w' : World} {e : TypeId} {A : Option Addr} {n c : Nat} {rows : List Row} (h : Items Z w0 w e A n c rows) (he : Ext w w') : Items Z w0 w' e A n c rows :=
  ⟨h.len, h.own.extNew he, fun r hr => ⟨(h.rd r hr).1.ext he, fun e' hn => ((h.rd r hr).2 e' hn).ext he⟩, h.cap, h.src⟩
theorem Items.more {Z : Nat → Prop} {w0 w w' : World} {e : TypeId} {A A' : Option Addr} {m c c' : Nat} {rows : List Row} (h : Items Z w0 w e A m c rows) (r : Row) (hne : 5 ≠ e) (hr : Rd w .u8 r.A r.n r.l) (hs : ∀ e', 5 ≠ e' → Apt w0 e' w r.A r.n) (hk : r.n ≤ r.c ∧ (r.A = none → r.c = 0)) (hz : 0 < r.n → ∀ ad, r.A = some ad → Z ad.block)
    (ho : New w0 w' e 3 A' (m + 1) c' (rows.flatMap Row.cells ++ r.cells)) (hg : Chg (fun i => (Value.slice A m c).ownBlock = some i) w w') : Items Z w0 w' e A' (m + 1) c' (rows ++ [r]) :=
  ⟨by simp [h.len], by rw [List.flatMap_append]; simpa using ho, fun r' hr' => by
    have h1 : Rd w .u8 r'.A r'.n r'.l ∧ ∀ e', 5 ≠ e' → Apt w0 e' w r'.A r'.n := by
      rcases List.mem_append.1 hr' with h1 | h1
      · exact h.rd r' h1
      · rw [List.mem_singleton.1 h1]; exact ⟨hr, hs⟩
    exact ⟨h1.1.chg hg ((h1.2 e hne).ne h.own), fun e' hn => (h1.2 e' hn).chg hg ((h1.2 e hne).ne h.own)⟩, fun r' hr' => by
      rcases List.mem_append.1 hr' with h1 | h1
      · exact h.cap r' h1
      · rw [List.mem_singleton.1 h1]; exact hk, fun r' hr' => by
      rcases List.mem_append.1 hr' with h1 | h1
      · exact h.src r' h1
      · rw [List.mem_singleton.1 h1]; exact hz⟩
theorem info_item : (Try.prog.info? 321).map (fun i => (i.zero, i.size, i.bytes)) = some (some (.agg #[.int .i64 0, .int .u16 0, .slice none 0 0]), 3, 40) := by kernel_rfl

def J (w : World) (A : Option Addr) (n c : Nat) (xs : List Int) (a' : Act) (w' : World) : Prop :=
  ∃ (pos m : Nat) (A' : Option Addr) (c' : Nat) (u1 u6 u7 u8 u9 u10 u11 u12 u13 u14 u15 u16 u17 u18 u19 u20 u21 u22 u23 u24 u25 u26 u27 u28 u29 u30 u31 u32 : Value), a' = { tmps := #[.slice A n c, u1, .slice none 0 0, .int .i64 0, .slice A' m c', .int .i64 pos, u6, u7, u8, u9, u10, u11, u12, u13, u14, u15, u16, u17, u18, u19, u20, u21, u22, u23, u24, u25, u26, u27, u28, u29, u30, u31, u32], defers := [] } ∧ pos ≤ n ∧ m ≤ pos ∧
    Hid (Ext w w' ∧ ∃ f rows, Items (fun _ => True) w w' 321 A' m c' rows ∧ rows.map Row.it ++ scan f pos (xs.drop pos) = scan n 0 xs ∧ used f pos (xs.drop pos) = used n 0 xs ∧ (xs.drop pos).length ≤ f)
set_option maxHeartbeats 1600000 in
set_option maxRecDepth 100000 in
theorem scan_calls (A : Option Addr) (n c : Nat) (xs : List Int) (w : World) (hr : Rd w .u8 A n xs) (hc : n ≤ c) (h0 : A = none → c = 0) (hn : n ≤ 1099511627776) :
    Calls Try.prog 211 #[.slice A n c] w fun e w' => Ext w w' ∧ ∃ A' m c' rows, e = .returned (.tuple #[.slice A' m c', .int .i64 (used n 0 xs)]) ∧ Items (fun _ => True) w w' 321 A' m c' rows ∧ rows.map Row.it = scan n 0 xs := by
  have HL := Lib.hid hr.len
  have H0 := Lib.hid h0
  clear h0
  go_enter Try.func211, Try.ntmps211
  go_wp2
  refine wp_scope_jumps2 0 (J w A n c xs) (fun a' _ => n - (intOf (a'.tmps.getD 5 undef)).toNat) rfl ?_ ?_
  · rintro a' w1 ⟨pos, m, A', c', u1, u6, u7, u8, u9, u10, u11, u12, u13, u14, u15, u16, u17, u18, u19, u20, u21, u22, u23, u24, u25, u26, u27, u28, u29, u30, u31, u32, ha, hp, hmp, H⟩
    obtain ⟨he1, hJ⟩ := H.out
    have hr1 := rd_dropMap (hr.ext he1) hp
    have hU1 : Hid (Le.U8s (xs.drop pos)) := Lib.hid fun x hx => wf_u8 (hr1.wf x hx)
    have HL1 : Hid ((xs.drop pos).length = n - pos) := Lib.hid (by simp [HL.out])
    have HR2 : Hid (c = pos → Rd w1 .u8 A (n - pos) (xs.drop pos)) := Lib.hid fun h => by
      have : n - pos = 0 := by omega
      rw [this] at hr1 ⊢
      rw [List.eq_nil_of_length_eq_zero hr1.len]
      exact rd_nil _ _ _
    have HN : Hid (A.map (fun x => x.add pos) = none → c - pos = 0) := Lib.hid fun h => by
      have : A = none := by cases A <;> simp at h ⊢
      have := H0.out this
      omega
    have HJ := Lib.hid hJ
    generalize hys : xs.drop pos = ys at *
    have HYS := Lib.hid hys
    clear H hJ hys
    obtain ⟨f, rows, hi, hs, hu, hf⟩ := HJ.out
    have HU := Lib.hid hu
    have HS := Lib.hid hs
    have HF := Lib.hid hf
    clear hu hs hf
    subst ha
    by_cases hcp : c = pos
    · have hr2 := HR2.out hcp
      have hno : ¬ form ys := fun h => by have := h.1; rw [HL1.out] at this; omega
      have hst := Frm.scan_stop (f := f) (p := (pos : Int)) (fun h => hno h.1)
      rw [hst.1, List.append_nil] at HS
      rw [hst.2] at HU
      clear hst
      have HNO := Lib.hid hno
      clear hno hr1
      go_wp2_with fail
      ((with_reducible refine (SealOpen.open_calls _ _ _ ys _ hr2 ?c1 ?c2 ?c3).mono ?_))
      case c1 => omega
      case c2 => exact fun _ => rfl
      case c3 => omega
      rintro e w2 ⟨hb2, ho⟩
      rcases ho with ⟨_, rfl⟩ | ⟨hfo, _, rfl⟩ | ⟨hfo, _, A4, c4, rfl, ho4⟩
      · go_wp2_with fail
        simp only [Exit.jump]
        go_ret2
        exact ⟨he1.trans hb2, A', m, c', rows, by rw [← HU.out]; rfl, hi.ext hb2, HS.out⟩
      · exact absurd hfo HNO.out
      · exact absurd hfo HNO.out
    · go_wp2_with fail
      ((with_reducible refine (SealOpen.open_calls _ _ _ ys _ hr1 ?c1 ?c2 ?c3).mono ?_))
      case c1 => omega
      case c2 => exact HN.out
      case c3 => omega
      rintro e w2 ⟨hb2, ho⟩
      have he2 : Ext w1 w2 := hb2
      rcases ho with ⟨hno, rfl⟩ | ⟨hfo, hno, rfl⟩ | ⟨hfo, hgo, A4, c4, rfl, ho4⟩
      · have hst := Frm.scan_stop (f := f) (p := (pos : Int)) (fun h => hno h.1)
        rw [hst.1, List.append_nil] at HS
        rw [hst.2] at HU
        clear hst
        go_wp2_with fail
        simp only [Exit.jump]
        go_ret2
        exact ⟨he1.trans hb2, A', m, c', rows, by rw [← HU.out]; rfl, hi.ext hb2, HS.out⟩
      · have hst := Frm.scan_stop (f := f) (p := (pos : Int)) (fun h => hno h.2)
        rw [hst.1, List.append_nil] at HS
        rw [hst.2] at HU
        clear hst
        go_wp2_with fail
        simp only [Exit.jump]
        go_ret2
        exact ⟨he1.trans hb2, A', m, c', rows, by rw [← HU.out]; rfl, hi.ext hb2, HS.out⟩
      · have hrl := ho4.rd (fun x hx => hr1.wf x (List.mem_of_mem_drop (List.mem_of_mem_take hx)))
        have hnn := Frm.nOf_nonneg ys hU1.out
        obtain ⟨N, hN⟩ : ∃ N : Nat, nOf ys = N := ⟨(nOf ys).toNat, by omega⟩
        have hNl : N ≤ n - pos - 12 := by have := hfo.2.2.2; have := hfo.1; rw [HL1.out] at *; omega
        have hN12 : 12 ≤ n - pos := by have := hfo.1; rw [HL1.out] at this; exact this
        have hsg := Frm.scan_go (f := f) (p := (pos : Int)) ⟨hfo, hgo⟩ HF.out
        rw [hN, Int.toNat_natCast] at ho4 hrl hsg ⊢
        have HSG := Lib.hid hsg
        clear hsg hnn hfo hgo hN
        have hi2 := hi.ext he2
        have he02 := he1.trans he2
        go_wp2_with (at_builtin; refine wpList_moreE w _ rfl _ _ _ rfl 321 _ 3 40 Try.underlying317 info_item rfl (by decide) (by decide) _ _ _ rfl hi2.own he02 [.int .i64 pos, .int .u16 (kOf ys), .slice A4 N c4] rfl (by simp [Value.oneCell']) rfl ?c1 ?_)
        case c1 => omega
        intro A5 c5 w5 ho5 he5 hg5
        have hi5 := hi2.more ⟨pos, kOf ys, A4, N, c4, loadOf ys⟩ (by decide) hrl (fun e' hn => Apt.own ho4 hn) ho4.cap (fun _ _ _ => trivial) ho5 hg5
        have HI5 := Lib.hid hi5
        clear hi5 ho5 hg5 hi2 hrl ho4
        go_wp2_with fail
        go_step3
        rw [show ((pos : Int) + (12 + (N : Int))) = ((pos + (12 + N) : Nat) : Int) by omega]
        refine ⟨rfl, ⟨pos + (12 + N), m + 1, A5, c5, _, _, _, _, _, _, _, _, _, _, _, _, _, _, _, _, _, _, _, _, _, _, _, _, _, _, _, _, rfl, by omega, by omega, Lib.hid ⟨he5, ?_⟩⟩, ?_⟩
        · obtain ⟨g, _, h1, h2, h3⟩ := HSG.out
          refine ⟨g, rows ++ [⟨pos, kOf ys, A4, N, c4, loadOf ys⟩], HI5.out, ?_, ?_, ?_⟩
          · rw [← HS.out, h1, ← List.drop_drop, HYS.out, show ((pos + (12 + N) : Nat) : Int) = pos + 12 + N by omega]
            simp [Row.it]
          · rw [← HU.out, h2, ← List.drop_drop, HYS.out, show ((pos + (12 + N) : Nat) : Int) = pos + 12 + N by omega]
          · rw [← List.drop_drop, HYS.out]
            exact h3
        · simp [intOf]
          omega
  · intro pass
    go_wp2
    go_step3
    repeat (first | exact pass _ _ ⟨0, 0, none, 0, _, _, _, _, _, _, _, _, _, _, _, _, _, _, _, _, _, _, _, _, _, _, _, _, _, _, _, _, rfl, Nat.zero_le _, Nat.le_refl _, Lib.hid ⟨Ext.refl _, n, [], ⟨rfl, Own.nil _ _ _ _, (fun _ h => by cases h), (fun _ h => by cases h), (fun _ h => by cases h)⟩, by simp, by simp, by simp [HL.out]⟩⟩ | go_step)
theorem Items.same {Z : Nat → Prop} {w0 w : World} {e : TypeId} {A : Option Addr} {m c : Nat} {rows : List Row} {l : List (Int × Int × List Int)} (h : Items Z w0 w e A m c rows) (hl : rows.map Row.it = l) : m = l.length := by
  rw [← hl, List.length_map, h.len]
theorem scan_at (A : Option Addr) (n c : Nat) (xs : List Int) (w : World) (hr : Rd w .u8 A n xs) (hc : n ≤ c) (h0 : A = none → c = 0) (hn : n ≤ 1099511627776) :
    Calls Try.prog 211 #[.slice A n c] w fun e w' => Ext w w' ∧ ∃ A' c' rows, e = .returned (.tuple #[.slice A' (scan n 0 xs).length c', .int .i64 (used n 0 xs)]) ∧ Items (fun _ => True) w w' 321 A' (scan n 0 xs).length c' rows ∧ rows.map Row.it = scan n 0 xs :=
  (scan_calls A n c xs w hr hc h0 hn).mono fun _ _ ⟨h1, A', m, c', rows, h2, h3, h4⟩ => by
    have := h3.same h4
    subst this
    exact ⟨h1, A', c', rows, h2, h3, h4⟩
end Go.Proofs.Ytipmkddcdnbihaa.Scan
/- Rows of whatever cells that an object owns; the blocks of an object behind a call. No program in sight. -/
namespace Go.Proofs.Ytipmkddcdnbihaa.Vec
open Go.RowKit Base Step

/-- Two lists alike, place by place. -/
structure Each {α β : Type} (R : α → β → Prop) (l : List α) (m : List β) : Prop where
  len : l.length = m.length
  all : ∀ (i : Nat) (x : α) (y : β), l[i]? = some x → m[i]? = some y → R x y
theorem Each.nil {α β : Type} (R : α → β → Prop) : Each R [] [] := ⟨rfl, fun i x y h => by cases h⟩
theorem Each.at_ {α β : Type} {R : α → β → Prop} {l : List α} {m : List β} (h : Each R l m) {i : Nat} {y : β} (hy : m[i]? = some y) : ∃ x, l[i]? = some x ∧ R x y := by
  have hi : i < m.length := (List.getElem?_eq_some_iff.1 hy).1
  have hl : l[i]? = some (l[i]'(by rw [h.len]; exact hi)) := List.getElem?_eq_getElem _
  exact ⟨_, hl, h.all i _ _ hl hy⟩
theorem Each.at1 {α β : Type} {R : α → β → Prop} {l : List α} {m : List β} (h : Each R l m) {i : Nat} {x : α} (hx : l[i]? = some x) : ∃ y, m[i]? = some y ∧ R x y := by
  have hi : i < l.length := (List.getElem?_eq_some_iff.1 hx).1
  have hl : m[i]? = some (m[i]'(by rw [← h.len]; exact hi)) := List.getElem?_eq_getElem _
  exact ⟨_, hl, h.all i _ _ hx hl⟩
theorem Each.imp {α β : Type} {R R' : α → β → Prop} {l : List α} {m : List β} (h : Each R l m) (hi : ∀ x y, R x y → R' x y) : Each R' l m := ⟨h.len, fun i x y hx hy => hi x y (h.all i x y hx hy)⟩
theorem Each.set {α β : Type} {R : α → β → Prop} {l : List α} {m : List β} (h : Each R l m) (j : Nat) {x : α} {y : β} (hr : R x y) : Each R (l.set j x) (m.set j y) :=
  ⟨by simp [h.len], fun i u v hu hv => by
    by_cases hij : j = i
    · subst hij
      have h1 : j < l.length := by have := (List.getElem?_eq_some_iff.1 hu).1; simpa using this
      rw [List.getElem?_set_self h1] at hu
      rw [List.getElem?_set_self (by rw [← h.len]; exact h1)] at hv
      cases hu
      cases hv
      exact hr
    · rw [List.getElem?_set_ne hij] at hu hv
      exact h.all i u v hu hv⟩
theorem Each.snoc {α β : Type} {R : α → β → Prop} {l : List α} {m : List β} (h : Each R l m) {x : α} {y : β} (hr : R x y) : Each R (l ++ [x]) (m ++ [y]) :=
  ⟨by simp [h.len], fun i u v hu hv => by
    by_cases hi : i < l.length
    · rw [List.getElem?_append_left hi] at hu
      rw [List.getElem?_append_left (by rw [← h.len]; exact hi)] at hv
      exact h.all i u v hu hv
    · rw [List.getElem?_append_right (by omega)] at hu
      rw [List.getElem?_append_right (by rw [← h.len]; omega), ← h.len] at hv
      have : i - l.length = 0 := by
        have := (List.getElem?_eq_some_iff.1 hu).1
        simpa using this
      rw [this] at hu hv
      simp at hu hv
      subst hu
      subst hv
      exact hr⟩
theorem Each.take {α β : Type} {R : α → β → Prop} {l : List α} {m : List β} (h : Each R l m) (n : Nat) : Each R (l.take n) (m.take n) :=
  ⟨by simp [h.len], fun i x y hx hy => by
    have h1 := (List.getElem?_eq_some_iff.1 hx).1
    rw [List.length_take] at h1
    rw [List.getElem?_take_of_lt (by omega)] at hx hy
    exact h.all i x y hx hy⟩
theorem Each.rep {α β : Type} {R : α → β → Prop} (n : Nat) {x : α} {y : β} (hr : R x y) : Each R (List.replicate n x) (List.replicate n y) :=
  ⟨by simp, fun i u v hu hv => by
    have h1 := List.mem_of_getElem? hu
    have h2 := List.mem_of_getElem? hv
    rw [List.eq_of_mem_replicate h1, List.eq_of_mem_replicate h2]
    exact hr⟩

/-- Bytes (elements of type e) that lie in blocks of S. -/
def Bytes (e : TypeId) (w : World) (S : Nat → Prop) (v : Value) (xs : List Int) : Prop := ∃ A n c, v = .slice A n c ∧ Own w S e 1 (.slice A n c) n (nums .u8 xs) ∧ ∀ x ∈ xs, (Lit.int .u8 x).wf = true
theorem Bytes.nil (e : TypeId) (w : World) (S : Nat → Prop) : Bytes e w S (.slice none 0 0) [] := ⟨none, 0, 0, rfl, Own.nil _ _ _ _, by simp⟩
theorem Bytes.ext {e : TypeId} {w w' : World} {S : Nat → Prop} {v : Value} {xs : List Int} (h : Bytes e w S v xs) (he : Ext w w') : Bytes e w' S v xs := by
  obtain ⟨A, n, c, rfl, h1, h2⟩ := h
  exact ⟨A, n, c, rfl, h1.extNew he, h2⟩
theorem Bytes.mono {e : TypeId} {w : World} {S S' : Nat → Prop} {v : Value} {xs : List Int} (h : Bytes e w S v xs) (hS : ∀ i, i < w.heap.size → S i → S' i) : Bytes e w S' v xs := by
  obtain ⟨A, n, c, rfl, h1, h2⟩ := h
  exact ⟨A, n, c, rfl, h1.mono hS, h2⟩
theorem Bytes.chg {e : TypeId} {w w' : World} {S S2 : Nat → Prop} {v : Value} {xs : List Int} (h : Bytes e w S v xs) (hc : Chg S2 w w') (hd : ∀ i, S i → ¬ S2 i) : Bytes e w' S v xs := by
  obtain ⟨A, n, c, rfl, h1, h2⟩ := h
  exact ⟨A, n, c, rfl, h1.chg hc hd, h2⟩
theorem Bytes.len {e : TypeId} {w : World} {S : Nat → Prop} {A : Option Addr} {n c : Nat} {xs : List Int} (h : Bytes e w S (.slice A n c) xs) : xs.length = n := by
  obtain ⟨A, n, c, h0, h1, h2⟩ := h
  cases h0
  have := h1.row.1
  simpa [nums] using this
theorem Bytes.rd {e : TypeId} {w : World} {S : Nat → Prop} {A : Option Addr} {n c : Nat} {xs : List Int} (h : Bytes e w S (.slice A n c) xs) : Rd w .u8 A n xs := by
  obtain ⟨A, n, c, h0, h1, h2⟩ := h
  cases h0
  exact h1.rd h2
/-- A row is as it was where all that has changed are blocks of other types. -/
theorem Own.kind {w w' : World} {S S2 : Nat → Prop} {e : TypeId} {size n : Nat} {v : Value} {xs : List Value} (h : Own w S e size v n xs) (hc : Chg S2 w w') (hk : ∀ i, S2 i → i < w.heap.size → ∃ c e' f, w.heap[i]? = some (.cells c e' f) ∧ e ≠ e') : Own w' S e size v n xs :=
  h.keep fun g hg => by
    have hlt := (h.row.lt g hg).2
    by_cases hs : S2 g
    · obtain ⟨c, e', f, h1, h2⟩ := hk g hs hlt
      exact absurd hg (h.ne h1 h2)
    · exact hc.block g hlt hs
theorem Bytes.kind {e : TypeId} {w w' : World} {S S2 : Nat → Prop} {v : Value} {xs : List Int} (h : Bytes e w S v xs) (hc : Chg S2 w w') (hk : ∀ i, S2 i → i < w.heap.size → ∃ c e' f, w.heap[i]? = some (.cells c e' f) ∧ e ≠ e') : Bytes e w' S v xs := by
  obtain ⟨A, n, c, rfl, h1, h2⟩ := h
  exact ⟨A, n, c, rfl, Own.kind h1 hc hk, h2⟩
/-- A store into one block of another type. -/
theorem Bytes.put {e e' : TypeId} {w : World} {S : Nat → Prop} {v : Value} {xs : List Int} (h : Bytes e w S v xs) {g i : Nat} {c : Array Value} {f : Nat × Nat} (hb : w.heap[g]? = some (.cells c e' f)) (hne : e ≠ e') (u : Value) : Bytes e (w.setCell ⟨g, i, none⟩ u) S v xs := by
  obtain ⟨A, n, k, rfl, h1, h2⟩ := h
  exact ⟨A, n, k, rfl, own_put h1 hb hne, h2⟩
theorem own_at {w : World} {S : Nat → Prop} {e : TypeId} {size n c : Nat} {ad : Addr} {xs : List Value} (h : Own w S e size (.slice (some ad) n c) n xs) : ∃ cur, ad = ⟨ad.block, 0, none⟩ ∧ w.heap[ad.block]? = some (.cells cur e (0, 0)) ∧ cur.toList.take (n * size) = xs ∧ S ad.block ∧ n * size ≤ cur.size := by
  have hf := h.foot _ rfl
  rcases h.row.2 with ⟨h1, h2⟩ | ⟨g, cap, cur, h1, h2, h3, h4, h5, h6, h7⟩
  · cases h1
  · cases h1
    refine ⟨cur, rfl, h3, h7, hf, ?_⟩
    have := congrArg List.length h7
    rw [h.row.1, List.length_take] at this
    simp at this
    omega
theorem own_kind {w : World} {S : Nat → Prop} {e : TypeId} {size n : Nat} {v : Value} {xs : List Value} (h : Own w S e size v n xs) {i : Nat} (hi : v.ownBlock = some i) : ∃ c f, w.heap[i]? = some (.cells c e f) := by
  rcases h.row.2 with ⟨rfl, _⟩ | ⟨g, cap, cur, rfl, _, hh, _⟩
  · simp [Value.ownBlock] at hi
  · simp [Value.ownBlock] at hi
    subst hi
    exact ⟨_, _, hh⟩
/-- All that has changed is a row's block: it is of its type. -/
theorem own_kinds {w : World} {S : Nat → Prop} {e e2 : TypeId} {size n : Nat} {v : Value} {xs : List Value} (h : Own w S e size v n xs) (hne : e2 ≠ e) : ∀ i, v.ownBlock = some i → i < w.heap.size → ∃ c e' f, w.heap[i]? = some (.cells c e' f) ∧ e2 ≠ e' := fun i hi _ => by
  obtain ⟨c, f, hh⟩ := own_kind h hi
  exact ⟨c, e, f, hh, hne⟩
theorem Bytes.new {e : TypeId} {w w' : World} {A : Option Addr} {n c : Nat} {xs : List Int} (h : New w w' e 1 A n c (nums .u8 xs)) (hw : ∀ x ∈ xs, (Lit.int .u8 x).wf = true) : Bytes e w' (fun i => w.heap.size ≤ i) (.slice A n c) xs := ⟨A, n, c, rfl, h, hw⟩
/-- A cell is stored into a row. -/
theorem own_setv {w : World} {S : Nat → Prop} {e : TypeId} {size n c : Nat} {ad : Addr} {xs : List Value} (h : Own w S e size (.slice (some ad) n c) n xs) (j : Nat) (u : Value) :
    Own (w.setCell (ad.add j) u) S e size (.slice (some ad) n c) n (xs.set j u) := by
  refine ⟨⟨by rw [List.length_set]; exact h.row.1, ?_⟩, fun g hg => h.foot g hg⟩
  rcases h.row.2 with ⟨h1, h2⟩ | ⟨g, cap, cur, h1, h2, h3, h4, h5, h6, h7⟩
  · cases h1
  · cases h1
    have ha : (⟨g, 0, none⟩ : Addr).add j = ⟨g, j, none⟩ := by unfold Addr.add; split <;> simp_all
    rw [ha]
    refine .inr ⟨g, c, cur.setIfInBounds j u, rfl, h2, set_blk h3 _, h4, h5, by simpa using h6, ?_⟩
    rw [Array.toList_setIfInBounds, List.take_set, h7]
/-- The first elements of a row. -/
theorem own_takeG {w : World} {S : Nat → Prop} {e : TypeId} {size : Nat} {A : Option Addr} {n c : Nat} {xs : List Value} (h : Own w S e size (.slice A n c) n xs) {m : Nat} (hm : m ≤ n) : Own w S e size (.slice A m c) m (xs.take (m * size)) := by
  have hms : m * size ≤ n * size := Nat.mul_le_mul_right _ hm
  refine ⟨⟨by rw [List.length_take, h.row.1]; omega, ?_⟩, fun g hg => h.foot g (by rcases A with _ | ad <;> simp [Value.ownBlock] at hg ⊢ <;> exact hg)⟩
  rcases h.row.2 with ⟨h1, h2⟩ | ⟨g, cap, cur, h1, h2, h3, h4, h5, h6, h7⟩
  · cases h1
    exact .inl ⟨by congr; omega, by omega⟩
  · cases h1
    refine .inr ⟨g, c, cur, rfl, h2, h3, by omega, h5, h6, ?_⟩
    rw [← h7, List.take_take]
    congr 1
    omega
theorem own_cell {w : World} {S : Nat → Prop} {e : TypeId} {size n c : Nat} {A : Option Addr} {xs : List Value} (h : Own w S e size (.slice A n c) n xs) {j : Nat} {u : Value} (hu : xs[j]? = some u) : ∃ ad, A = some ad ∧ w.cell? (ad.add j) = some u := by
  have hn : xs ≠ [] := by rintro rfl; cases hu
  obtain ⟨ad, e, hc⟩ := h.rdv hn
  exact ⟨ad, e, hc j u hu⟩

/-- An object's blocks, and all that have been laid between two worlds. -/
def Plus (S : Nat → Prop) (w w' : World) : Nat → Prop := fun i => S i ∨ (w.heap.size ≤ i ∧ i < w'.heap.size)
theorem plus_set (S : Nat → Prop) (w w' : World) (p : Addr) (v : Value) : Plus S w (w'.setCell p v) = Plus S w w' := by unfold Plus; simp
theorem Plus.old {S : Nat → Prop} {w w' : World} {i : Nat} (h : S i) : Plus S w w' i := .inl h
theorem Plus.lt {S : Nat → Prop} {w w' : World} (hS : ∀ i, S i → i < w.heap.size) (hs : w.heap.size ≤ w'.heap.size) : ∀ i, Plus S w w' i → i < w'.heap.size := fun i h => h.elim (fun h => Nat.lt_of_lt_of_le (hS i h) hs) fun h => h.2
theorem Plus.fresh {w0 : World} {S : Nat → Prop} {w w' : World} (hS : Fresh w0 S) (h : w0.heap.size ≤ w.heap.size) : Fresh w0 (Plus S w w') := fun i hi => hi.elim (hS i) fun h2 => Nat.le_trans h h2.1
theorem Plus.sep {S S2 : Nat → Prop} {w w' : World} (h : ∀ i, S i → ¬ S2 i) (h2 : ∀ i, S2 i → i < w.heap.size) : ∀ i, Plus S w w' i → ¬ S2 i := fun i hi k => hi.elim (fun h1 => h i h1 k) fun h1 => by have := h2 i k; omega
theorem Plus.mono {S : Nat → Prop} {a b c d : World} (h1 : a.heap.size ≤ b.heap.size) (h2 : c.heap.size ≤ d.heap.size) : ∀ i, Plus S b c i → Plus S a d i := fun i h => h.imp id fun ⟨k1, k2⟩ => ⟨by omega, by omega⟩
theorem Plus.step {S : Nat → Prop} {w w' : World} (h : Chg S w w') : Step S (Plus S w w') w w' := ⟨h, fun i hi => hi.imp id fun h => h.1⟩
theorem Plus.trans {S : Nat → Prop} {a b c : World} (h1 : a.heap.size ≤ b.heap.size) (h2 : b.heap.size ≤ c.heap.size) : ∀ i, Plus (Plus S a b) b c i → Plus S a c i := fun i h => by
  rcases h with (h | h) | h
  · exact .inl h
  · exact .inr ⟨h.1, by omega⟩
  · exact .inr ⟨by omega, h.2⟩
/-- What the call changes is S, and later what it has laid: all in all S. -/
theorem chg_plus {S : Nat → Prop} {a b c : World} (h : Chg S a b) (k : Chg (Plus S a b) b c) : Chg S a c := h.step k fun i hi hp => hp.elim id fun h2 => by omega
theorem chg_ext {S : Nat → Prop} {a b c : World} (h : Chg S a b) (k : Ext b c) : Chg S a c := h.trans (Below.chg k)
theorem ext_chg {S : Nat → Prop} {a b c : World} (h : Ext a b) (k : Chg S b c) : Chg S a c := Chg.trans (Below.chg h) k

section
variable {P : Program}
/-- An append of one element that a literal has laid. -/
theorem wpList_appE {ops : Array Oper} {rest : List Oper} {o : Oper} {a : Act} {Q : Exit → Act → World → Prop} (w : World) (hgd : Region.wanted o (yielded ops a.tmps) = true) (s x : Operand) (t : TypeId)
    (ho : o.op = .call { callee := .builtin .append, args := #[s, x], argTypes := #[t, t] })
    (S : Nat → Prop) (e : TypeId) (z : Value) (size bytes : Nat) (ht : P.underlying t = some (.slice e)) (hinfo : (P.info? e).map (fun i => (i.zero, i.size, i.bytes)) = some (some z, size, bytes)) (hzs : z.cells.size = size) (hsz : 0 < size) (hb0 : 0 < bytes)
    (v : Value) (n : Nat) (xs : List Value) (hs : a.eval s = v) (hown : Own w S e size v n xs) (g c : Nat) (vs : List Value) (hx : a.eval x = .slice (some ⟨g, 0, none⟩) 1 c) (hl : vs.length = size) (hc : ∀ j u, vs[j]? = some u → w.cell? ⟨g, j, none⟩ = some u) (h1 : ∀ u ∈ vs, u.oneCell' = true)
    (hbytes : (n + 1) * bytes ≤ 140737488355328) (hS : ∀ i, w.heap.size ≤ i → S i)
    (h : ∀ A' c' w', Own w' S e size (.slice A' (n + 1) c') (n + 1) (xs ++ vs) → Chg (fun i => v.ownBlock = some i) w w' → wpList P ops Q rest (a.put o.dst (.slice A' (n + 1) c')) w') : wpList P ops Q (o :: rest) a w := by
  refine wpList_step fun K hK => ?_
  rw [if_pos hgd]
  obtain ⟨i, hi, hz, hsize, hby⟩ := info_parts hinfo
  have hlen : n + 1 ≤ 140737488355328 := Nat.le_trans (Nat.le_mul_of_pos_right _ hb0) hbytes
  have hga : ∀ j, (⟨g, 0, none⟩ : Addr).add j = ⟨g, j, none⟩ := fun j => by unfold Addr.add; split <;> simp_all
  obtain ⟨v', w', hrun, h2, h3, _, h5⟩ := run_append_own_at (P := P) w 0 t o.type e i z size bytes ht hi hz hsize hby hzs hsz v n xs hown.row ⟨g, 0, none⟩ 1 c vs (by simp [hl])
    (fun j u hu => by rw [hga]; exact hc j u hu) h1 (by simp only [maxLen]; omega) hbytes (Nat.zero_le _)
  obtain ⟨A', c', rfl⟩ := own_slice h2
  unfold Oper.wp execOp
  simp only [ho, resolve, invoke, builtin, Sem.run_bind, Sem.run_pure, Result.andThen_ok, List.map_toArray, List.map_cons, List.map_nil, hs, hx, hrun]
  refine hK _ _ (h A' c' w' ⟨h2, fun k hk => ?_⟩ ((Chg.refl _ _).grown h3 fun k hk => hk))
  rcases h5 with h5 | h5
  · exact hown.foot k (by rw [← h5]; exact hk)
  · rw [h5] at hk
    cases hk
    exact hS _ (Nat.le_refl _)
/-- An append of what a slice of whatever cells reads, nil or not. -/
theorem wpList_appV {ops : Array Oper} {rest : List Oper} {o : Oper} {a : Act} {Q : Exit → Act → World → Prop} (w : World) (hgd : Region.wanted o (yielded ops a.tmps) = true) (s x : Operand) (t : TypeId)
    (ho : o.op = .call { callee := .builtin .append, args := #[s, x], argTypes := #[t, t] })
    (S : Nat → Prop) (e : TypeId) (z : Value) (size bytes : Nat) (ht : P.underlying t = some (.slice e)) (hinfo : (P.info? e).map (fun i => (i.zero, i.size, i.bytes)) = some (some z, size, bytes)) (hzs : z.cells.size = size) (hsz : 0 < size) (hb0 : 0 < bytes)
    (v : Value) (n : Nat) (xs : List Value) (hs : a.eval s = v) (hown : Own w S e size v n xs) (A : Option Addr) (m c : Nat) (vs : List Value) (hx : a.eval x = .slice A m c) (hl : vs.length = m * size) (hA : A = none → m = 0) (hc : ∀ ad, A = some ad → ∀ j u, vs[j]? = some u → w.cell? (ad.add j) = some u) (h1 : ∀ u ∈ vs, u.oneCell' = true)
    (hbytes : (n + m) * bytes ≤ 140737488355328) (hS : ∀ i, w.heap.size ≤ i → S i)
    (h : ∀ A' c' w', Own w' S e size (.slice A' (n + m) c') (n + m) (xs ++ vs) → Chg (fun i => v.ownBlock = some i) w w' → wpList P ops Q rest (a.put o.dst (.slice A' (n + m) c')) w') : wpList P ops Q (o :: rest) a w := by
  refine wpList_step fun K hK => ?_
  rw [if_pos hgd]
  obtain ⟨i, hi, hz, hsize, hby⟩ := info_parts hinfo
  have hlen : n + m ≤ 140737488355328 := Nat.le_trans (Nat.le_mul_of_pos_right _ hb0) hbytes
  have key : ∃ v' w', (Builtin.append_ #[t, t] o.type #[v, .slice A m c]).run P w = .ok v' w' ∧ w'.ownsRow 0 e size v' (n + m) (xs ++ vs) ∧ w.grownBy w' v.ownBlock ∧ (v'.ownBlock = v.ownBlock ∨ v'.ownBlock = some w.heap.size) := by
    rcases A with _ | ad
    · have h0 := hA rfl
      subst h0
      obtain rfl : vs = [] := List.eq_nil_of_length_eq_zero (by simpa using hl)
      refine ⟨v, w, ?_, by simpa using hown.row, World.grownBy.refl w _, .inl rfl⟩
      rcases hown.row.2 with ⟨rfl, rfl⟩ | ⟨g, cap, cur, rfl, _, _, hnc, _⟩
      · simp [Builtin.append_, run_underlying ht, sizeOf, typeInfo, hi, Builtin.lenOf, Builtin.firstCells]
      · simp [Builtin.append_, run_underlying ht, sizeOf, typeInfo, hi, Builtin.lenOf, Builtin.firstCells, hnc, storeCells]
    · obtain ⟨v', w', hrun, h2, h3, _, h5⟩ := run_append_own_at (P := P) w 0 t o.type e i z size bytes ht hi hz hsize hby hzs hsz v n xs hown.row ad m c vs hl (hc ad rfl) h1 (by simp only [maxLen]; omega) hbytes (Nat.zero_le _)
      exact ⟨v', w', hrun, h2, h3, h5⟩
  obtain ⟨v', w', hrun, h2, h3, h5⟩ := key
  obtain ⟨A', c', rfl⟩ := own_slice h2
  unfold Oper.wp execOp
  simp only [ho, resolve, invoke, builtin, Sem.run_bind, Sem.run_pure, Result.andThen_ok, List.map_toArray, List.map_cons, List.map_nil, hs, hx, hrun]
  refine hK _ _ (h A' c' w' ⟨h2, fun k hk => ?_⟩ ((Chg.refl _ _).grown h3 fun k hk => hk))
  rcases h5 with h5 | h5
  · exact hown.foot k (by rw [← h5]; exact hk)
  · rw [h5] at hk
    cases hk
    exact hS _ (Nat.le_refl _)
end
end Go.Proofs.Ytipmkddcdnbihaa.Vec
/- A region that draws its order, walked once in an order of one's own: first operations that hang on no world, then a head that writes nothing old, then a tail, one behind the other. No program in sight. -/
namespace Go.Proofs.Ytipmkddcdnbihaa.Lex

section
variable {P : Program} {ops : Array Oper} {md : Region.Mode} {E : World → World → Prop} {w0 : World} {sp : Nat → Option Loose} {Q : Exit → Act → World → Prop}

/-- The way on alone: no other exit. -/
def onlyN (Q : Exit → Act → World → Prop) : Exit → Act → World → Prop
  | .normal, a, w => Q .normal a w
  | _, _, _ => False
theorem onlyN_le (e : Exit) (a : Act) (w : World) (h : onlyN Q e a w) : Q e a w := by
  cases e <;> first | exact h | exact h.elim
theorem oper_monoQ {Q' : Exit → Act → World → Prop} {o : Oper} {a : Act} {w : World} {K : Act → World → Prop} (hq : ∀ e a w, Q e a w → Q' e a w) (hh : o.wp P a w K Q) : o.wp P a w K Q' := by
  unfold Oper.wp at *
  generalize (execOp a.eval o).run P w = r at *
  cases r with
  | ok n w' =>
    cases n <;> simp only [Oper.upon] at hh ⊢ <;> first
      | exact hh
      | exact Calls.mono hh (fun e w'' he => by cases e <;> first | exact he | exact hq _ _ _ he | (obtain ⟨a, w, h⟩ := he; exact ⟨a, w, hq _ _ _ h⟩))
  | halt x w' => cases x <;> simp only [Oper.upon] at hh ⊢ <;> first | exact hh | exact hq _ _ _ hh
theorem any_monoQ {Q' : Exit → Act → World → Prop} (hq : ∀ e a w, Q e a w → Q' e a w) : ∀ (fuel : Nat) (listed : Array Bool) (a : Act) (w : World), wpAny P md ops Q fuel listed a w → wpAny P md ops Q' fuel listed a w
  | 0, _, _, _, h => ⟨h.1, hq _ _ _ h.2⟩
  | fuel + 1, listed, a, w, h => ⟨fun h0 => hq _ _ _ (h.1 h0), fun j hj => by
    have h1 := h.2 j hj
    unfold wpOp at h1 ⊢
    split
    · rename_i ho
      simp only [ho] at h1
      exact any_monoQ hq fuel _ _ _ h1
    · rename_i o ho
      simp only [ho] at h1
      split
      · rename_i hw
        simp only [hw, if_true] at h1
        rcases h1 with h1 | ⟨h1, a', w', h2⟩
        · exact .inl (oper_monoQ hq (Oper.wp_mono (fun a w => any_monoQ hq fuel _ a w) h1))
        · exact .inr ⟨h1, a', w', hq _ _ _ h2⟩
      · rename_i hw
        simp only [hw] at h1
        exact any_monoQ hq fuel _ _ _ h1⟩

/-- An operation that hangs on no world may be taken first. -/
theorem any_first {i : Nat} {oi : Oper} {v : Value} (hi : ops[i]? = some oi) (hsel : ∀ (j : Nat) (o : Oper) cs b, ops[j]? = some o → o.op ≠ .select cs b) :
    ∀ (fuel : Nat) (listed : Array Bool) (a : Act) (W : World),
      (∀ j oj, ops[j]? = some oj → j ≠ i → listed.getD j true = false → (∀ e ∈ oj.after, Region.binds md e = true → e.on ≠ i) → oi.apart ops oj = true) →
      i ∈ Region.ready md ops listed → Region.wanted oi (yielded ops a.tmps) = true → (∀ W, (execOp a.eval oi).run P W = .ok (.value v) W) →
      wpAny P md ops (onlyN Q) fuel (listed.setIfInBounds i true) (a.put oi.dst v) W → wpAny P md ops (onlyN Q) (fuel + 1) listed a W := by
  intro fuel
  induction fuel with
  | zero =>
    intro listed a W hfree hr hw hy H
    refine ⟨fun h => (by rw [h] at hr; cases hr), fun j hj => ?_⟩
    by_cases hji : j = i
    · subst hji
      unfold wpOp
      simp only [hi, hw, if_true]
      refine .inl ?_
      unfold Oper.wp
      rw [hy W]
      exact H
    · have h1 := ready_mono hj hji
      rw [H.1] at h1
      cases h1
  | succ fuel ih =>
    intro listed a W hfree hr hw hy H
    refine ⟨fun h => (by rw [h] at hr; cases hr), fun j hj => ?_⟩
    by_cases hji : j = i
    · subst hji
      unfold wpOp
      simp only [hi, hw, if_true]
      refine .inl ?_
      unfold Oper.wp
      rw [hy W]
      exact H
    · obtain ⟨hjun, oj, hoj, hall⟩ := mem_ready.1 hj
      have hiun := (mem_ready.1 hr).1
      have hnot : ∀ e ∈ oj.after, Region.binds md e = true → e.on ≠ i := fun e he hb heq => by
        have h1 := hall e he hb
        rw [heq, getD_both hiun] at h1
        cases h1
      obtain ⟨p1, p2, p3⟩ := Oper.apart_spec (hfree j oj hoj hji hjun hnot)
      have hsi : ∀ cs b, oi.op ≠ .select cs b := fun cs b => hsel i oi cs b hi
      have hsj : ∀ cs b, oj.op ≠ .select cs b := fun cs b => hsel j oj cs b hoj
      have hfree' : ∀ k ok, ops[k]? = some ok → k ≠ i → (listed.setIfInBounds j true).getD k true = false →
          (∀ e ∈ ok.after, Region.binds md e = true → e.on ≠ i) → oi.apart ops ok = true := fun k ok hk hki hun hno => by
        refine hfree k ok hk hki ?_ hno
        by_cases hjk : j = k
        · subst hjk; exact hjun
        · rw [getD_set_ne true hjk] at hun; exact hun
      have hr2 := ready_mono hr (Ne.symm hji)
      have h1 := H.2 j (ready_mono hj hji)
      have step : ∀ u W', wpAny P md ops (onlyN Q) fuel ((listed.setIfInBounds i true).setIfInBounds j true) ((a.put oi.dst v).put oj.dst u) W' → wpAny P md ops (onlyN Q) (fuel + 1) (listed.setIfInBounds j true) (a.put oj.dst u) W' := fun u W' h => by
        refine ih (listed.setIfInBounds j true) (a.put oj.dst u) W' hfree' hr2 (by rw [wanted_put oi a oj.dst u p3]; exact hw) (fun W => by rw [execOp_put oi hsi a oj.dst u p3]; exact hy W) ?_
        rw [← Act.put_comm a v u p2, Array.setIfInBounds_comm _ _ hji]
        exact h
      have stepD : ∀ d W', wpAny P md ops (onlyN Q) fuel ((listed.setIfInBounds i true).setIfInBounds j true) ({ a.put oi.dst v with defers := d :: (a.put oi.dst v).defers }.put oj.dst undef) W' → wpAny P md ops (onlyN Q) (fuel + 1) (listed.setIfInBounds j true) ({ a with defers := d :: a.defers }.put oj.dst undef) W' := fun d W' h => by
        have e1 : ({ a.put oi.dst v with defers := d :: (a.put oi.dst v).defers } : Act) = ({ a with defers := d :: a.defers } : Act).put oi.dst v := by
          cases oi.dst <;> rfl
        rw [e1] at h
        refine ih (listed.setIfInBounds j true) _ W' hfree' hr2 (by rw [wanted_put oi _ oj.dst undef p3]; exact hw) (fun W => by rw [execOp_put oi hsi _ oj.dst undef p3]; exact hy W) ?_
        rw [← Act.put_comm _ v undef p2, Array.setIfInBounds_comm _ _ hji]
        exact h
      unfold wpOp at h1 ⊢
      simp only [hoj] at h1 ⊢
      rw [wanted_put oj a oi.dst v p1] at h1
      by_cases hwj : Region.wanted oj (yielded ops a.tmps) = true
      · simp only [hwj, if_true] at h1 ⊢
        rcases h1 with h1 | ⟨_, a', w', h2⟩
        · refine .inl ?_
          unfold Oper.wp at h1 ⊢
          rw [execOp_put oj hsj a oi.dst v p1] at h1
          generalize (execOp a.eval oj).run P W = r at h1 ⊢
          cases r with
          | ok n W' =>
            cases n <;> simp only [Oper.upon] at h1 ⊢ <;> first
              | exact step _ _ h1
              | exact stepD _ _ h1
              | exact Calls.mono h1 (fun e w'' he => by cases e <;> first | exact step _ _ he | exact he)
              | exact Rows.mono h1 (fun _ _ he => step _ _ he)
          | halt x W' => cases x <;> simp only [Oper.upon] at h1 ⊢ <;> first | exact h1 | exact h1.elim
        · exact h2.elim
      · simp only [hwj] at h1 ⊢
        exact step _ _ h1

/-- As anyL, over the operations that H allows; behind them: L. -/
def anyH (P : Program) (md : Region.Mode) (ops : Array Oper) (E : World → World → Prop) (w0 : World) (sp : Nat → Option Loose) (H : Nat → Bool) (L : Array Bool → Act → (Nat → World → Prop) → Prop) : Nat → Array Bool → Act → (Nat → World → Prop) → Prop
  | 0, listed, a, F => L listed a F
  | fuel + 1, listed, a, F => Region.ready md ops listed ≠ [] ∧ ∀ j ∈ Region.ready md ops listed, H j = true ∧ opL P md ops E w0 sp j (anyH P md ops E w0 sp H L fuel (listed.setIfInBounds j true)) a F
theorem any_ofH {H : Nat → Bool} {g : Nat} {L : Array Bool → Act → (Nat → World → Prop) → Prop} (hL : ∀ listed a F W, L listed a F → All E w0 F W → wpAny P md ops Q g listed a W) (hE : ∀ a b c, E a b → E b c → E a c) (hR : ∀ j s, sp j = some s → ∀ v W W', s.R v W → E W W' → s.R v W') :
    ∀ (fuel : Nat) (listed : Array Bool) (a : Act) (F : Nat → World → Prop) (W : World), StF E F → All E w0 F W → anyH P md ops E w0 sp H L fuel listed a F → wpAny P md ops Q (fuel + g) listed a W
  | 0, _, _, _, W, _, hW, h => by rw [Nat.zero_add]; exact hL _ _ _ _ h hW
  | fuel + 1, listed, a, F, W, hF, hW, h => by
    rw [show fuel + 1 + g = (fuel + g) + 1 by omega]
    refine ⟨fun h0 => absurd h0 h.1, fun j hj => ?_⟩
    have h1 := (h.2 j hj).2
    unfold opL at h1
    unfold wpOp
    cases ho : ops[j]? with
    | none => simp only [ho] at h1 ⊢; exact any_ofH hL hE hR fuel _ _ _ _ hF hW h1
    | some o =>
      simp only [ho] at h1 ⊢
      unfold stepL at h1
      by_cases hw : Region.wanted o (yielded ops a.tmps) = true
      · simp only [hw, if_true] at h1 ⊢
        refine .inl ?_
        unfold Oper.wp
        cases hs : sp j with
        | none =>
          simp only [hs] at h1
          obtain ⟨v, hv, hk⟩ := h1
          rw [hv W hW.cls]
          exact any_ofH hL hE hR fuel _ _ _ _ hF hW hk
        | some s =>
          simp only [hs] at h1
          obtain ⟨hv, hk⟩ := h1
          have h2 := hv W hW.cls
          have hFs : ∀ v, StF E (upd F j (s.R v)) := fun v => hF.upd (hR j s hs v)
          generalize (execOp a.eval o).run P W = r at h2 ⊢
          cases r with
          | ok n W' =>
            cases n <;> simp only [looseAt] at h2 <;> simp only [Oper.upon]
            case value v =>
              obtain ⟨hT, he, hr⟩ := h2
              have hA := (hW.step hE hF he).upd (j := j) (r := s.R v) hr
              exact any_ofH hL hE hR fuel _ _ _ _ (hFs v) hA (hk v hT ⟨_, hA⟩)
            case skip =>
              obtain ⟨hT, he, hr⟩ := h2
              have hA := (hW.step hE hF he).upd (j := j) (r := s.R undef) hr
              exact any_ofH hL hE hR fuel _ _ _ _ (hFs undef) hA (hk undef hT ⟨_, hA⟩)
            case enter f args =>
              refine h2.mono fun e W'' ⟨v, hev, hT, he, hr⟩ => ?_
              subst hev
              have hA := (hW.step hE hF he).upd (j := j) (r := s.R v) hr
              exact any_ofH hL hE hR fuel _ _ _ _ (hFs v) hA (hk v hT ⟨_, hA⟩)
          | halt x W' => simp only [looseAt] at h2
      · simp only [hw] at h1 ⊢
        exact any_ofH hL hE hR fuel _ _ _ _ hF hW h1

/-- An operation that may be taken first. -/
theorem anyH_first {H G : Nat → Bool} {L : Array Bool → Act → (Nat → World → Prop) → Prop} (hwait : ∀ listed, Closed md ops listed → (∃ h, G h = true ∧ listed.getD h true = false) → ∀ t ∈ Region.ready md ops listed, H t = true) (hdone : ∀ listed a F, L listed a F → ∀ j ∈ Region.ready md ops listed, H j = false) (hE : ∀ a b c, E a b → E b c → E a c) (hR : ∀ j s, sp j = some s → ∀ v W W', s.R v W → E W W' → s.R v W') {i : Nat} {oi : Oper} (hin : G i = true) (hi : ops[i]? = some oi) (hsel : ∀ (j : Nat) (o : Oper) cs b, ops[j]? = some o → o.op ≠ .select cs b) :
    ∀ (fuel : Nat) (listed : Array Bool) (a : Act) (F : Nat → World → Prop), Closed md ops listed → StF E F → (∃ W, All E w0 F W) →
      (∀ j oj, ops[j]? = some oj → j ≠ i → listed.getD j true = false → (∀ e ∈ oj.after, Region.binds md e = true → e.on ≠ i) → oi.apart ops oj = true) →
      i ∈ Region.ready md ops listed →
      stepL P md ops E w0 sp i oi (anyH P md ops E w0 sp H L fuel (listed.setIfInBounds i true)) a F → anyH P md ops E w0 sp H L (fuel + 1) listed a F := by
  intro fuel
  induction fuel with
  | zero =>
    intro listed a F hcl hF hex hfree hr HH
    refine ⟨fun h => (by rw [h] at hr; cases hr), fun j hj => ?_⟩
    have hjn : H j = true := hwait listed hcl ⟨i, hin, (mem_ready.1 hr).1⟩ j hj
    refine ⟨hjn, ?_⟩
    by_cases hji : j = i
    · subst hji
      unfold opL
      simp only [hi]
      exact HH
    · exfalso
      have h1 := ready_mono hj hji
      have h2 : ∃ a F, L (listed.setIfInBounds i true) a F := by
        unfold stepL at HH
        by_cases hw : Region.wanted oi (yielded ops a.tmps) = true
        · simp only [hw, if_true] at HH
          cases hs : sp i with
          | none => simp only [hs] at HH; obtain ⟨v, _, hk⟩ := HH; exact ⟨_, _, hk⟩
          | some s =>
            simp only [hs] at HH
            obtain ⟨hv, hk⟩ := HH
            obtain ⟨W, hW⟩ := hex
            have h3 := hv W hW.cls
            generalize (execOp a.eval oi).run P W = r at h3
            cases r with
            | ok n W' =>
              cases n <;> simp only [looseAt] at h3
              case value v => exact ⟨_, _, hk v h3.1 ⟨_, (hW.step hE hF h3.2.1).upd h3.2.2⟩⟩
              case skip => exact ⟨_, _, hk undef h3.1 ⟨_, (hW.step hE hF h3.2.1).upd h3.2.2⟩⟩
              case enter f args =>
                obtain ⟨e, W'', v, _, hT, he, hr⟩ := calls_some h3
                exact ⟨_, _, hk v hT ⟨_, (hW.step hE hF he).upd hr⟩⟩
            | halt x W' => simp only [looseAt] at h3
        · simp only [hw] at HH
          exact ⟨_, _, HH⟩
      obtain ⟨_, _, h2⟩ := h2
      have := hdone _ _ _ h2 j h1
      rw [hjn] at this
      cases this
  | succ fuel ih =>
    intro listed a F hcl hF hex hfree hr HH
    refine ⟨fun h => (by rw [h] at hr; cases hr), fun j hj => ?_⟩
    have hjn : H j = true := hwait listed hcl ⟨i, hin, (mem_ready.1 hr).1⟩ j hj
    refine ⟨hjn, ?_⟩
    by_cases hji : j = i
    · subst hji
      unfold opL
      simp only [hi]
      exact HH
    · obtain ⟨hjun, oj, hoj, hall⟩ := mem_ready.1 hj
      have hiun := (mem_ready.1 hr).1
      have hnot : ∀ e ∈ oj.after, Region.binds md e = true → e.on ≠ i := fun e he hb heq => by
        have h1 := hall e he hb
        rw [heq] at h1
        rcases Nat.lt_or_ge i listed.size with h' | h'
        · simp [h'] at hiun h1; rw [hiun] at h1; cases h1
        · simp [Array.getElem?_eq_none h'] at h1
      have hap := hfree j oj hoj hji hjun hnot
      obtain ⟨p1, p2, p3⟩ := Oper.apart_spec hap
      have hsi : ∀ cs b, oi.op ≠ .select cs b := fun cs b => hsel i oi cs b hi
      have hsj : ∀ cs b, oj.op ≠ .select cs b := fun cs b => hsel j oj cs b hoj
      have hdep : dep md ops j i = false := not_dep hcl hj hiun
      have hdep2 : dep md ops i j = false := not_dep hcl hr hjun
      have hcl2 := hcl.set hj
      have hfree' : ∀ k ok, ops[k]? = some ok → k ≠ i → (listed.setIfInBounds j true).getD k true = false →
          (∀ e ∈ ok.after, Region.binds md e = true → e.on ≠ i) → oi.apart ops ok = true := fun k ok hk hki hun hno => by
        refine hfree k ok hk hki ?_ hno
        by_cases hjk : j = k
        · subst hjk; exact hjun
        · rw [getD_set_ne true hjk] at hun; exact hun
      have hr2 := ready_mono hr (Ne.symm hji)
      have hjr := ready_mono hj hji
      -- what i's step says, at each of its values: j's step behind it
      have hsw : (listed.setIfInBounds j true).setIfInBounds i true = (listed.setIfInBounds i true).setIfInBounds j true := Array.setIfInBounds_comm _ _ hji
      obtain ⟨W, hW⟩ := hex
      unfold opL
      simp only [hoj]
      -- i's step anew, behind j's value u and facts F'
      have again : ∀ (u : Value) (F' : Nat → World → Prop), (∀ W, Cls md ops E w0 i F' W → Cls md ops E w0 i F W) → 
          (∀ v G, (sp i = none ∨ Region.wanted oi (yielded ops a.tmps) = false) → G = F' → anyH P md ops E w0 sp H L (fuel + 1) (listed.setIfInBounds i true) (a.put oi.dst v) F → anyH P md ops E w0 sp H L fuel ((listed.setIfInBounds i true).setIfInBounds j true) ((a.put oi.dst v).put oj.dst u) G) →
          (∀ v s, sp i = some s → (∃ W, All E w0 (upd F' i (s.R v)) W) → (∃ W, All E w0 (upd F i (s.R v)) W) ∧ (anyH P md ops E w0 sp H L (fuel + 1) (listed.setIfInBounds i true) (a.put oi.dst v) (upd F i (s.R v)) → anyH P md ops E w0 sp H L fuel ((listed.setIfInBounds i true).setIfInBounds j true) ((a.put oi.dst v).put oj.dst u) (upd F' i (s.R v)))) →
          stepL P md ops E w0 sp i oi (anyH P md ops E w0 sp H L fuel ((listed.setIfInBounds j true).setIfInBounds i true)) (a.put oj.dst u) F' := by
        intro u F' hc hq hl
        unfold stepL at HH ⊢
        rw [wanted_put oi a oj.dst u p3, execOp_put oi hsi a oj.dst u p3, hsw]
        by_cases hw : Region.wanted oi (yielded ops a.tmps) = true
        · simp only [hw, if_true] at HH ⊢
          cases hs : sp i with
          | none =>
            simp only [hs] at HH
            obtain ⟨v, hv, hk⟩ := HH
            refine ⟨v, fun W hW => hv W (hc W hW), ?_⟩
            rw [← Act.put_comm a v u p2]
            exact hq v F' (.inl hs) rfl hk
          | some s =>
            simp only [hs] at HH
            obtain ⟨hv, hk⟩ := HH
            refine ⟨fun W hW => hv W (hc W hW), fun v hT hx => ?_⟩
            rw [← Act.put_comm a v u p2]
            obtain ⟨hx', hl'⟩ := hl v s hs hx
            exact hl' (hk v hT hx')
        · simp only [hw] at HH ⊢
          rw [← Act.put_comm a undef u p2]
          exact hq undef F' (.inr (by simpa using hw)) rfl HH
      -- one value of i at the least, with a world
      have some_i : ∃ v G, (G = F ∨ ∃ s, sp i = some s ∧ G = upd F i (s.R v)) ∧ anyH P md ops E w0 sp H L (fuel + 1) (listed.setIfInBounds i true) (a.put oi.dst v) G := by
        unfold stepL at HH
        by_cases hw : Region.wanted oi (yielded ops a.tmps) = true
        · simp only [hw, if_true] at HH
          cases hs : sp i with
          | none => simp only [hs] at HH; obtain ⟨v, _, hk⟩ := HH; exact ⟨_, _, .inl rfl, hk⟩
          | some s =>
            simp only [hs] at HH
            obtain ⟨hv, hk⟩ := HH
            have h3 := hv W hW.cls
            generalize (execOp a.eval oi).run P W = r at h3
            cases r with
            | ok n W' =>
              cases n <;> simp only [looseAt] at h3
              case value v => exact ⟨_, _, .inr ⟨s, rfl, rfl⟩, hk v h3.1 ⟨_, (hW.step hE hF h3.2.1).upd h3.2.2⟩⟩
              case skip => exact ⟨_, _, .inr ⟨s, rfl, rfl⟩, hk undef h3.1 ⟨_, (hW.step hE hF h3.2.1).upd h3.2.2⟩⟩
              case enter f args =>
                obtain ⟨e, W'', v, _, hT, he, hr⟩ := calls_some h3
                exact ⟨_, _, .inr ⟨s, rfl, rfl⟩, hk v hT ⟨_, (hW.step hE hF he).upd hr⟩⟩
            | halt x W' => simp only [looseAt] at h3
        · simp only [hw] at HH
          exact ⟨_, _, .inl rfl, HH⟩
      have clsj : ∀ (v : Value) (G : Nat → World → Prop), (G = F ∨ ∃ s, sp i = some s ∧ G = upd F i (s.R v)) → ∀ W, Cls md ops E w0 j F W → Cls md ops E w0 j G W := by
        rintro v G (rfl | ⟨s, _, rfl⟩) W h
        · exact h
        · exact (cls_upd hdep W).2 h
      have stepj : ∀ (v : Value) (G : Nat → World → Prop), anyH P md ops E w0 sp H L (fuel + 1) (listed.setIfInBounds i true) (a.put oi.dst v) G →
          stepL P md ops E w0 sp j oj (anyH P md ops E w0 sp H L fuel ((listed.setIfInBounds i true).setIfInBounds j true)) (a.put oi.dst v) G := by
        intro v G h
        have := (h.2 j hjr).2
        unfold opL at this
        simpa only [hoj] using this
      obtain ⟨v0, G0, hG0, h0⟩ := some_i
      have h0j := stepj v0 G0 h0
      unfold stepL at h0j ⊢
      rw [wanted_put oj a oi.dst v0 p1, execOp_put oj hsj a oi.dst v0 p1] at h0j
      by_cases hw : Region.wanted oj (yielded ops a.tmps) = true
      · simp only [hw, if_true] at h0j ⊢
        cases hs : sp j with
        | none =>
          simp only [hs] at h0j
          obtain ⟨u, hu, _⟩ := h0j
          have hu' : ∀ W, Cls md ops E w0 j F W → (execOp a.eval oj).run P W = .ok (.value u) W := fun W h => hu W (clsj v0 G0 hG0 W h)
          have key : ∀ (v : Value) (G : Nat → World → Prop), (G = F ∨ ∃ s, sp i = some s ∧ G = upd F i (s.R v)) → anyH P md ops E w0 sp H L (fuel + 1) (listed.setIfInBounds i true) (a.put oi.dst v) G →
              anyH P md ops E w0 sp H L fuel ((listed.setIfInBounds i true).setIfInBounds j true) ((a.put oi.dst v).put oj.dst u) G := by
            intro v G hG h
            have hj2 := stepj v G h
            unfold stepL at hj2
            rw [wanted_put oj a oi.dst v p1, execOp_put oj hsj a oi.dst v p1] at hj2
            simp only [hw, if_true, hs] at hj2
            obtain ⟨u2, hu2, hk2⟩ := hj2
            have e1 := hu2 W (clsj v G hG W hW.cls)
            rw [hu' W hW.cls] at e1
            injection e1 with e1 _
            injection e1 with e1
            subst e1
            exact hk2
          refine ⟨u, hu', ih (listed.setIfInBounds j true) (a.put oj.dst u) F hcl2 hF ⟨W, hW⟩ hfree' hr2 (again u F (fun _ h => h) ?_ ?_)⟩
          · intro v G _ hG h
            subst hG
            exact key v _ (.inl rfl) h
          · intro v s hsi hx
            exact ⟨hx, fun h => key v _ (.inr ⟨s, hsi, rfl⟩) h⟩
        | some s =>
          simp only [hs] at h0j
          obtain ⟨hv0, _⟩ := h0j
          refine ⟨fun W h => hv0 W (clsj v0 G0 hG0 W h), fun u hT hx => ih (listed.setIfInBounds j true) (a.put oj.dst u) _ hcl2 (hF.upd (hR j s hs u)) hx hfree' hr2 (again u _ (fun W h => (cls_upd hdep2 W).1 h) ?_ ?_)⟩
          · intro v G _ hG h
            subst hG
            have hj2 := stepj v F h
            unfold stepL at hj2
            rw [wanted_put oj a oi.dst v p1, execOp_put oj hsj a oi.dst v p1] at hj2
            simp only [hw, if_true, hs] at hj2
            exact hj2.2 u hT hx
          · intro v t ht hx2
            obtain ⟨W2, hW2⟩ := hx2
            refine ⟨⟨W2, hW2.1, fun n => ⟨(hW2.2 n).1.1, (hW2.2 n).2⟩⟩, fun h => ?_⟩
            have hj2 := stepj v _ h
            unfold stepL at hj2
            rw [wanted_put oj a oi.dst v p1, execOp_put oj hsj a oi.dst v p1] at hj2
            simp only [hw, if_true, hs] at hj2
            have := hj2.2 u hT ⟨W2, by rw [upd_comm]; exact hW2⟩
            rwa [upd_comm] at this
      · simp only [hw]
        have key : ∀ (v : Value) (G : Nat → World → Prop), anyH P md ops E w0 sp H L (fuel + 1) (listed.setIfInBounds i true) (a.put oi.dst v) G →
            anyH P md ops E w0 sp H L fuel ((listed.setIfInBounds i true).setIfInBounds j true) ((a.put oi.dst v).put oj.dst undef) G := by
          intro v G h
          have hj2 := stepj v G h
          unfold stepL at hj2
          rw [wanted_put oj a oi.dst v p1] at hj2
          rwa [if_neg hw] at hj2
        refine ih (listed.setIfInBounds j true) (a.put oj.dst undef) F hcl2 hF ⟨W, hW⟩ hfree' hr2 (again undef F (fun _ h => h) ?_ ?_)
        · intro v G _ hG h
          subst hG
          exact key v _ h
        · intro v s _ hx
          exact ⟨hx, fun h => key v _ h⟩



/-- Operations by their places. -/
def pick (l : List Oper) : List Nat → List (Nat × Oper)
  | [] => []
  | k :: ks => match l[k]? with
    | some o => (k, o) :: pick l ks
    | none => pick l ks
def ordFrom (md : Region.Mode) (ops : Array Oper) : List Nat → Array Bool → (Array Bool → Bool) → Bool
  | [], listed, K => K listed
  | k :: ks, listed, K => (Region.ready md ops listed).contains k && Region.free md ops listed k && ordFrom md ops ks (listed.setIfInBounds k true) K
def seqO (md : Region.Mode) (ops : Array Oper) : List Nat → Array Bool → Bool
  | [], listed => (Region.ready md ops listed).isEmpty
  | k :: ks, listed => decide (Region.ready md ops listed = [k]) && seqO md ops ks (listed.setIfInBounds k true)
def sinkO (md : Region.Mode) (ops : Array Oper) (t : Nat) : List Nat → Bool
  | [] => true
  | h :: rest => (rest.any (fun j => Region.waitsFor md ops j h) || Region.waitsFor md ops t h) && sinkO md ops t rest
def sinkAll (md : Region.Mode) (ops : Array Oper) : List Nat → List Nat → Bool
  | _, [] => true
  | hd, t :: ts => sinkO md ops t hd && sinkAll md ops (hd ++ [t]) ts
def ordB (md : Region.Mode) (ops : Array Oper) (pre hd tl : List Nat) : Bool :=
  Region.noSelect ops && ((List.range ops.size).all fun i => (pre ++ hd).contains i || tl.contains i) && (tl.all fun t => !(pre ++ hd).contains t && decide (t < ops.size)) && decide (pre.length + hd.length + tl.length = ops.size) && sinkAll md ops hd tl
    && ordFrom md ops pre (Array.replicate ops.size false) (fun listed => ordFrom md ops hd listed (seqO md ops tl))

theorem sinkO_spec {t : Nat} {listed : Array Bool} (hc : Closed md ops listed) (ht : t ∈ Region.ready md ops listed) : ∀ (hd : List Nat), sinkO md ops t hd = true → ∀ h ∈ hd, listed.getD h false = true
  | [], _, h, hh => by cases hh
  | k :: rest, hs, h, hh => by
    simp only [sinkO, Bool.and_eq_true, Bool.or_eq_true] at hs
    have ih := sinkO_spec hc ht rest hs.2
    rcases List.mem_cons.1 hh with rfl | hh
    · rcases hs.1 with h1 | h1
      · obtain ⟨j, hj, hw⟩ := List.any_eq_true.1 h1
        obtain ⟨oj, hoj, e, he, hb, hon⟩ := Region.waitsFor_spec hw
        rw [← hon]
        exact hc j oj hoj (ih j hj) e he hb
      · obtain ⟨ot, hot, e, he, hb, hon⟩ := Region.waitsFor_spec h1
        obtain ⟨_, o', ho', hall⟩ := mem_ready.1 ht
        rw [hot] at ho'
        cases ho'
        rw [← hon]
        exact hall e he hb
    · exact ih h hh
theorem sinkAll_spec {t : Nat} {listed : Array Bool} (hc : Closed md ops listed) (ht : t ∈ Region.ready md ops listed) : ∀ (tl hd : List Nat), sinkAll md ops hd tl = true → t ∈ tl → ∀ h ∈ hd, listed.getD h false = true
  | [], _, _, h => by cases h
  | k :: ts, hd, hs, hm => by
    simp only [sinkAll, Bool.and_eq_true] at hs
    rcases List.mem_cons.1 hm with rfl | hm
    · exact sinkO_spec hc ht hd hs.1
    · intro h hh
      exact sinkAll_spec hc ht ts (hd ++ [k]) hs.2 hm h (List.mem_append_left _ hh)

/-- The first operations, that hang on no world. -/
def preL (P : Program) (ops : Array Oper) : List (Nat × Oper) → (Act → Prop) → Act → Prop
  | [], K, a => K a
  | (_, o) :: rest, K, a => ∃ v, (Region.wanted o (yielded ops a.tmps) = true ∧ ∀ W, (execOp a.eval o).run P W = .ok (.value v) W) ∧ preL P ops rest K (a.put o.dst v)
def lexH (P : Program) (md : Region.Mode) (ops : Array Oper) (E : World → World → Prop) (w0 : World) (sp : Nat → Option Loose) (R : Act → World → Prop) : List (Nat × Oper) → Act → (Nat → World → Prop) → Prop
  | [], a, F => ∀ W, All E w0 F W → R a W
  | (k, o) :: rest, a, F => stepL P md ops E w0 sp k o (lexH P md ops E w0 sp R rest) a F
theorem any_seqO {Q' : Exit → Act → World → Prop} {l : List Oper} (hl : l.toArray = ops) : ∀ (tl : List Nat) (listed : Array Bool) (a : Act) (w : World), (∀ t ∈ tl, t < ops.size) → seqO md ops tl listed = true → wpList P ops Q' ((pick l tl).map (·.2)) a w → wpAny P md ops Q' tl.length listed a w
  | [], _, _, _, _, hB, h => ⟨by simpa [seqO] using hB, h⟩
  | k :: tl, listed, a, w, hlt, hB, h => by
    simp only [seqO, Bool.and_eq_true, decide_eq_true_eq] at hB
    obtain ⟨o, h0⟩ : ∃ o, l[k]? = some o := ⟨_, List.getElem?_eq_getElem (by have := hlt k List.mem_cons_self; rw [← hl] at this; simpa using this)⟩
    have h0' : ops[k]? = some o := by rw [← hl]; simpa using h0
    simp only [pick, h0, List.map_cons] at h
    refine ⟨fun h1 => (by rw [hB.1] at h1; cases h1), fun i hi => ?_⟩
    rw [hB.1] at hi
    have hik : i = k := by simpa using hi
    subst hik
    have hw : wpOp P ops Q' i (wpList P ops Q' ((pick l tl).map (·.2))) a w := by unfold wpOp; simp only [h0']; exact h
    exact wpOp_mono (fun a' w' h' => any_seqO hl tl _ a' w' (fun t ht => hlt t (List.mem_cons_of_mem _ ht)) hB.2 h') hw
theorem anyH_lex {l : List Oper} (hl : l.toArray = ops) {H G : Nat → Bool} {K : Array Bool → Bool} {R : Act → World → Prop} (hwait : ∀ listed, Closed md ops listed → (∃ h, G h = true ∧ listed.getD h true = false) → ∀ t ∈ Region.ready md ops listed, H t = true)
    (hdone : ∀ listed, K listed = true → ∀ j ∈ Region.ready md ops listed, H j = false) (hE : ∀ a b c, E a b → E b c → E a c) (hR : ∀ j s, sp j = some s → ∀ v W W', s.R v W → E W W' → s.R v W') (hs : Region.noSelect ops = true) :
    ∀ (hd : List Nat) (listed : Array Bool) (a : Act) (F : Nat → World → Prop), (∀ h ∈ hd, G h = true ∧ h < ops.size) → Closed md ops listed → StF E F → (∃ W, All E w0 F W) →
    ordFrom md ops hd listed K = true → lexH P md ops E w0 sp R (pick l hd) a F → anyH P md ops E w0 sp H (fun listed a F => K listed = true ∧ ∀ W, All E w0 F W → R a W) hd.length listed a F
  | [], listed, a, F, _, _, _, _, hB, h => ⟨by simpa [ordFrom] using hB, h⟩
  | k :: hd, listed, a, F, hG, hcl, hF, hex, hB, h => by
    obtain ⟨hGk, hlt⟩ := hG k List.mem_cons_self
    obtain ⟨o, h0⟩ : ∃ o, l[k]? = some o := ⟨_, List.getElem?_eq_getElem (by rw [← hl] at hlt; simpa using hlt)⟩
    have h0' : ops[k]? = some o := by rw [← hl]; simpa using h0
    simp only [ordFrom, Bool.and_eq_true] at hB
    obtain ⟨⟨hr, hf⟩, hB'⟩ := hB
    have hr' : k ∈ Region.ready md ops listed := by simpa using hr
    have hG' : ∀ h ∈ hd, G h = true ∧ h < ops.size := fun h hh => hG h (List.mem_cons_of_mem _ hh)
    simp only [pick, h0] at h
    refine anyH_first (G := G) hwait (fun listed' a' F' hL => hdone listed' hL.1) hE hR hGk h0' (Region.noSelect_spec hs) hd.length listed a F hcl hF hex (Region.free_spec h0' hf) hr' ?_
    unfold lexH at h
    unfold stepL at h ⊢
    by_cases hw : Region.wanted o (yielded ops a.tmps) = true
    · simp only [hw, if_true] at h ⊢
      cases hsp : sp k with
      | none =>
        simp only [hsp] at h
        obtain ⟨v, hv, hk⟩ := h
        exact ⟨v, hv, anyH_lex hl hwait hdone hE hR hs hd _ _ F hG' (hcl.set hr') hF hex hB' hk⟩
      | some s =>
        simp only [hsp] at h
        exact ⟨h.1, fun v hT hx => anyH_lex hl hwait hdone hE hR hs hd _ _ _ hG' (hcl.set hr') (hF.upd (hR k s hsp v)) hx hB' (h.2 v hT hx)⟩
    · rw [if_neg hw] at h ⊢
      exact anyH_lex hl hwait hdone hE hR hs hd _ _ F hG' (hcl.set hr') hF hex hB' h
theorem any_pre {l : List Oper} (hl : l.toArray = ops) (hs : Region.noSelect ops = true) {K : Array Bool → Bool} {R : Act → Prop} {g : Nat} {W : World} : ∀ (pre : List Nat) (listed : Array Bool) (a : Act), (∀ k ∈ pre, k < ops.size) → Closed md ops listed → ordFrom md ops pre listed K = true → preL P ops (pick l pre) R a →
    (∀ listed a, Closed md ops listed → K listed = true → R a → wpAny P md ops (onlyN Q) g listed a W) → wpAny P md ops (onlyN Q) (g + pre.length) listed a W
  | [], listed, a, _, hcl, hB, h, hk => hk listed a hcl (by simpa [ordFrom] using hB) h
  | k :: pre, listed, a, hlt, hcl, hB, h, hk => by
    obtain ⟨o, h0⟩ : ∃ o, l[k]? = some o := ⟨_, List.getElem?_eq_getElem (by have := hlt k List.mem_cons_self; rw [← hl] at this; simpa using this)⟩
    have h0' : ops[k]? = some o := by rw [← hl]; simpa using h0
    simp only [ordFrom, Bool.and_eq_true] at hB
    obtain ⟨⟨hr, hf⟩, hB'⟩ := hB
    have hr' : k ∈ Region.ready md ops listed := by simpa using hr
    simp only [pick, h0, preL] at h
    obtain ⟨v, ⟨hw, hy⟩, h⟩ := h
    rw [List.length_cons, ← Nat.add_assoc]
    exact any_first h0' (Region.noSelect_spec hs) (g + pre.length) listed a W (Region.free_spec h0' hf) hr' hw hy (any_pre hl hs pre _ _ (fun t ht => hlt t (List.mem_cons_of_mem _ ht)) (hcl.set hr') hB' h hk)

/-- A region that draws its order, in an order of one's own. -/
theorem wp_region_ordE {id : Nat} {a : Act} {w : World} {l : List Oper} (pre hd tl : List Nat) (E : World → World → Prop) (sp : Nat → Option Loose) (hm : P.follows .mixedOrders = true) (hB : ordB .any l.toArray pre hd tl = true) (h0 : ∀ a, E a a) (hE : ∀ a b c, E a b → E b c → E a c)
    (hR : ∀ j s, sp j = some s → ∀ v W W', s.R v W → E W W' → s.R v W')
    (h : preL P l.toArray (pick l pre) (fun a => lexH P .any l.toArray E w.drew sp (wpList P l.toArray (onlyN Q) ((pick l tl).map (·.2))) (pick l hd) a (fun _ _ => True)) a) : (Code.region id l.toArray true).wp P Q a w := by
  simp only [ordB, Bool.and_eq_true, decide_eq_true_eq] at hB
  obtain ⟨⟨⟨⟨⟨hsel, hall⟩, hdis⟩, hlen⟩, hsink⟩, hord⟩ := hB
  have hcl0 : Closed .any l.toArray (Array.replicate l.toArray.size false) := fun k o _ hk => by
    exfalso
    rcases Nat.lt_or_ge k l.length with h | h
    · simp [h] at hk
    · simp [h] at hk
  refine wp_region_any hm (any_monoQ onlyN_le _ _ _ _ ?_)
  have sub : ∀ (ks : List Nat) (listed : Array Bool) (K : Array Bool → Bool), ordFrom .any l.toArray ks listed K = true → ∀ k ∈ ks, k < l.toArray.size := by
    intro ks
    induction ks with
    | nil => intro _ _ _ k hk; cases hk
    | cons x ks ih =>
      intro listed K hB k hk
      simp only [ordFrom, Bool.and_eq_true] at hB
      rcases List.mem_cons.1 hk with rfl | hk
      · have hr : k ∈ Region.ready .any l.toArray listed := by simpa using hB.1.1
        obtain ⟨_, o, ho, _⟩ := mem_ready.1 hr
        exact (Array.getElem?_eq_some_iff.1 ho).1
      · exact ih _ _ hB.2 k hk
  have := any_pre (Q := Q) (P := P) (md := .any) (ops := l.toArray) rfl hsel (g := hd.length + tl.length) (W := w.drew) pre _ a (sub _ _ _ hord) hcl0 hord h (fun listed a hcl hK hR' => by
    have hsub := sub _ _ _ hK
    have hnt : ∀ t ∈ tl, ¬ (pre ++ hd).contains t = true := fun t ht => by
      have := List.all_eq_true.1 hdis t ht
      simp only [Bool.and_eq_true] at this
      simpa using this.1
    have H := anyH_lex (md := .any) (ops := l.toArray) (P := P) (w0 := w.drew) (l := l) rfl (H := fun i => (pre ++ hd).contains i) (G := fun i => hd.contains i) (K := seqO .any l.toArray tl) (R := wpList P l.toArray (onlyN Q) ((pick l tl).map (·.2)))
      (fun listed' hcl' ⟨h', hG, hun⟩ t ht => by
        obtain ⟨_, ot, hot, _⟩ := mem_ready.1 ht
        have h1 := List.all_eq_true.1 hall t (List.mem_range.2 (Array.getElem?_eq_some_iff.1 hot).1)
        simp only [Bool.or_eq_true] at h1
        rcases h1 with h1 | h1
        · exact h1
        · have h2 := sinkAll_spec hcl' ht tl hd hsink (by simpa using h1) h' (by simpa using hG)
          rw [getD_both hun] at h2
          cases h2)
      (fun listed' hK' j hj => by
        cases tl with
        | nil => simp only [seqO, List.isEmpty_iff] at hK'; rw [hK'] at hj; cases hj
        | cons t tl =>
          simp only [seqO, Bool.and_eq_true, decide_eq_true_eq] at hK'
          rw [hK'.1] at hj
          have : j = t := by simpa using hj
          subst this
          simpa using hnt j List.mem_cons_self) hE hR hsel hd listed a (fun _ _ => True) (fun h hh => ⟨by simpa using hh, hsub h hh⟩) hcl (fun _ _ _ _ _ => trivial) ⟨w.drew, h0 _, fun _ => trivial⟩ hK hR'
    exact any_ofH (Q := onlyN Q) (g := tl.length) (fun listed' a' F W hL hW => any_seqO rfl tl listed' a' W (fun t ht => by
      have := List.all_eq_true.1 hdis t ht
      simp only [Bool.and_eq_true, decide_eq_true_eq] at this
      exact this.2) hL.1 (hL.2 W hW)) hE hR hd.length listed a (fun _ _ => True) w.drew (fun _ _ _ _ _ => trivial) ⟨h0 _, fun _ => trivial⟩ H)
  rw [show hd.length + tl.length + pre.length = l.toArray.size by omega] at this
  exact this
/-- .. in which nothing old is written but by its tail. -/
theorem wp_region_ord {id : Nat} {a : Act} {w : World} {l : List Oper} (pre hd tl : List Nat) (L : List (Nat × Loose)) (hm : P.follows .mixedOrders = true) (hB : ordB .any l.toArray pre hd tl = true) (hL : ∀ p ∈ L, p.2.St Base.Ext)
    (h : preL P l.toArray (pick l pre) (fun a => lexH P .any l.toArray Base.Ext w.drew (spOf L) (wpList P l.toArray (onlyN Q) ((pick l tl).map (·.2))) (pick l hd) a (fun _ _ => True)) a) : (Code.region id l.toArray true).wp P Q a w :=
  wp_region_ordE pre hd tl Base.Ext (spOf L) hm hB Base.Ext.refl (fun _ _ _ => Base.Ext.trans) (fun _ _ hs v W W' hr he => by obtain ⟨p, hp, rfl⟩ := spOf_mem hs; exact hL p hp v W W' hr he) h
theorem preL_nil {K : Act → Prop} {a : Act} (h : K a) : preL P ops [] K a := h
theorem preL_cons {K : Act → Prop} {a : Act} {k : Nat} {o : Oper} {rest : List (Nat × Oper)} (hw : Region.wanted o (yielded ops a.tmps) = true) (h : ∃ v, (∀ W, (execOp a.eval o).run P W = .ok (.value v) W) ∧ preL P ops rest K (a.put o.dst v)) : preL P ops ((k, o) :: rest) K a := by
  obtain ⟨v, h1, h2⟩ := h
  exact ⟨v, ⟨hw, h1⟩, h2⟩
variable {R : Act → World → Prop} {F : Nat → World → Prop} {a : Act} {o : Oper} {rest : List (Nat × Oper)} {k : Nat}
theorem lexH_nil (h : ∀ W, All E w0 F W → R a W) : lexH P md ops E w0 sp R [] a F := h
theorem lexH_skip (hw : Region.wanted o (yielded ops a.tmps) = false) (h : lexH P md ops E w0 sp R rest (a.put o.dst undef) F) : lexH P md ops E w0 sp R ((k, o) :: rest) a F := by
  unfold lexH stepL
  rw [if_neg (by rw [hw]; exact Bool.false_ne_true)]
  exact h
theorem lexH_still (hw : Region.wanted o (yielded ops a.tmps) = true) (hs : sp k = none) (h : ∃ v, (∀ W, Cls md ops E w0 k F W → (execOp a.eval o).run P W = .ok (.value v) W) ∧ lexH P md ops E w0 sp R rest (a.put o.dst v) F) : lexH P md ops E w0 sp R ((k, o) :: rest) a F := by
  unfold lexH stepL
  rw [if_pos hw]
  simp only [hs]
  exact h
theorem lexH_loose (hw : Region.wanted o (yielded ops a.tmps) = true) {s : Loose} (hs : sp k = some s) (hv : ∀ W, Cls md ops E w0 k F W → looseAt P E W s ((execOp a.eval o).run P W))
    (h : ∀ v, s.T v → lexH P md ops E w0 sp R rest (a.put o.dst v) (upd F k (s.R v))) : lexH P md ops E w0 sp R ((k, o) :: rest) a F := by
  unfold lexH stepL
  rw [if_pos hw]
  simp only [hs]
  exact ⟨hv, fun v hT _ => h v hT⟩
end
end Go.Proofs.Ytipmkddcdnbihaa.Lex
/- Plain facts about records among frames: no program in sight. -/
namespace Go.Proofs.Ytipmkddcdnbihaa.DiaryP
open Frm
abbrev It := Int × Int × List Int
/-- Does a frame bear the record of number j + 1? -/
def okAt (j : Nat) (it : It) : Prop := it.2.1 = 2 ∧ 8 ≤ it.2.2.length ∧ it.2.2.length ≤ 60008 ∧ Le.of (it.2.2.take 8) = (j : Int) + 1
instance (j : Nat) (it : It) : Decidable (okAt j it) := by unfold okAt; infer_instance
/-- The records that frames begin with, from number j + 1 on, and where they end. -/
def recs : List It → Nat → Int → List (List Int) × Int
  | [], _, u => ([], u)
  | it :: l, j, u => if okAt j it then (it.2.2.drop 8 :: (recs l (j + 1) u).1, (recs l (j + 1) u).2) else ([], it.1)
def outs (l : List It) : List (List Int) := l.map fun it => it.2.2.drop 8
theorem recs_go {l : List It} {j : Nat} {u : Int} {it : It} (h : l[j]? = some it) (hk : okAt j it) : recs (l.drop j) j u = (it.2.2.drop 8 :: (recs (l.drop (j + 1)) (j + 1) u).1, (recs (l.drop (j + 1)) (j + 1) u).2) := by
  have hj := List.getElem?_eq_some_iff.1 h
  rw [← List.getElem_cons_drop hj.1, hj.2]
  simp only [recs]
  rw [if_pos hk]
theorem recs_stop {l : List It} {j : Nat} {u : Int} {it : It} (h : l[j]? = some it) (hk : ¬ okAt j it) : recs (l.drop j) j u = ([], it.1) := by
  have hj := List.getElem?_eq_some_iff.1 h
  rw [← List.getElem_cons_drop hj.1, hj.2]
  simp only [recs]
  rw [if_neg hk]
theorem recs_end {l : List It} {u : Int} : recs (l.drop l.length) l.length u = ([], u) := by rw [List.drop_length]; rfl
theorem outs_next {l : List It} {j : Nat} {it : It} (h : l[j]? = some it) : outs (l.take (j + 1)) = outs (l.take j) ++ [it.2.2.drop 8] := by
  have hj := List.getElem?_eq_some_iff.1 h
  rw [List.take_succ_eq_append_getElem hj.1, hj.2]
  simp [outs]
theorem scan_count : ∀ (f : Nat) (p : Int) (xs : List Int), (scan f p xs).length ≤ f
  | 0, _, _ => Nat.le_refl _
  | f + 1, p, xs => by
    unfold scan
    split
    · have := scan_count f (p + 12 + nOf xs) (xs.drop (12 + (nOf xs).toNat))
      simp
      omega
    · simp
theorem scan_len : ∀ (f : Nat) (p : Int) (xs : List Int), ∀ it ∈ scan f p xs, it.2.2.length ≤ xs.length
  | 0, _, _, it, h => by cases h
  | f + 1, p, xs, it, h => by
    unfold scan at h
    split at h
    · rcases List.mem_cons.1 h with rfl | h
      · simp only [loadOf, List.length_take, List.length_drop]
        omega
      · have := scan_len f _ _ it h
        simp only [List.length_drop] at this
        omega
    · cases h
/-- The records that bytes begin with. -/
def records (xs : List Int) : List (List Int) × Int := recs (scan xs.length 0 xs) 0 (used xs.length 0 xs)
theorem scan_used : ∀ (f : Nat) (p : Int) (xs : List Int), Le.U8s xs → 0 ≤ p → p ≤ used f p xs ∧ used f p xs ≤ p + xs.length ∧ ∀ it ∈ scan f p xs, p ≤ it.1 ∧ it.1 ≤ p + xs.length
  | 0, p, xs, _, h => ⟨Int.le_refl _, by show p ≤ _; omega, fun it hi => by cases hi⟩
  | f + 1, p, xs, hu, h => by
    unfold used scan
    split
    · rename_i hf
      have h0 := nOf_nonneg xs hu
      have h1 := hf.1.2.2.2
      have h2 := hf.1.1
      obtain ⟨h3, h4, h5⟩ := scan_used f (p + 12 + nOf xs) (xs.drop (12 + (nOf xs).toNat)) (fun x hx => hu x (List.mem_of_mem_drop hx)) (by omega)
      rw [List.length_drop] at h4 h5
      refine ⟨by omega, by omega, fun it hi => ?_⟩
      rcases List.mem_cons.1 hi with rfl | hi
      · exact ⟨Int.le_refl _, by show p ≤ _; omega⟩
      · have := h5 it hi
        omega
    · exact ⟨Int.le_refl _, by omega, fun it hi => by cases hi⟩
theorem recs_used {l : List It} : ∀ {j : Nat} {u b : Int}, 0 ≤ u → u ≤ b → (∀ it ∈ l, 0 ≤ it.1 ∧ it.1 ≤ b) → 0 ≤ (recs l j u).2 ∧ (recs l j u).2 ≤ b := by
  induction l with
  | nil => intro j u b h0 h1 _; exact ⟨h0, h1⟩
  | cons it l ih =>
    intro j u b h0 h1 h
    unfold recs
    split
    · exact ih h0 h1 fun it hi => h it (List.mem_cons_of_mem _ hi)
    · exact h it List.mem_cons_self
theorem records_used {xs : List Int} (hu : Le.U8s xs) : 0 ≤ (records xs).2 ∧ (records xs).2 ≤ xs.length := by
  obtain ⟨h1, h2, h3⟩ := scan_used xs.length 0 xs hu (Int.le_refl 0)
  exact recs_used h1 (by omega) fun it hi => by have := h3 it hi; omega
theorem recs_count {l : List It} : ∀ {j : Nat} {u : Int}, (recs l j u).1.length ≤ l.length := by
  induction l with
  | nil => intro j u; exact Nat.le_refl _
  | cons it l ih =>
    intro j u
    unfold recs
    split
    · have := ih (j := j + 1) (u := u)
      simp
      omega
    · simp
theorem records_count (xs : List Int) : (records xs).1.length ≤ xs.length := Nat.le_trans recs_count (scan_count _ _ _)
theorem recs_len {l : List It} {b : Nat} : ∀ {j : Nat} {u : Int}, (∀ it ∈ l, it.2.2.length ≤ b) → ∀ x ∈ (recs l j u).1, x.length ≤ b := by
  induction l with
  | nil => intro j u _ x hx; cases hx
  | cons it l ih =>
    intro j u h x hx
    unfold recs at hx
    split at hx
    · rcases List.mem_cons.1 hx with rfl | hx
      · have := h it List.mem_cons_self
        rw [List.length_drop]
        omega
      · exact ih (fun it hi => h it (List.mem_cons_of_mem _ hi)) x hx
    · cases hx
theorem records_len (xs : List Int) : ∀ x ∈ (records xs).1, x.length ≤ xs.length := recs_len (scan_len _ _ _)
/-- A record's frame. -/
def frame (num : Int) (b : List Int) : List Int := Frm.frame 2 (Le.le 8 num ++ b)
theorem frame_length (num : Int) (b : List Int) : (frame num b).length = 20 + b.length := by
  unfold frame
  rw [Frm.frame_length, List.length_append, Le.le_length]
  omega
end Go.Proofs.Ytipmkddcdnbihaa.DiaryP
namespace Go.Proofs.Ytipmkddcdnbihaa.DiaryRec
open Go.RowKit Base Step Vec
open Scan (Row Items)
open DiaryP (okAt recs outs records frame)

theorem info_b : (Try.prog.info? 55).map (fun i => (i.zero, i.size, i.bytes)) = some (some (.slice none 0 0), 1, 24) := by kernel_rfl
/-- Rows of bytes in blocks of S. -/
def Rows2 (w : World) (S : Nat → Prop) (A : Option Addr) (n c : Nat) (xs : List (List Int)) : Prop := ∃ vs, Own w S 55 1 (.slice A n c) n vs ∧ Each (Bytes 5 w S) vs xs
theorem Rows2.ext {w w' : World} {S : Nat → Prop} {A : Option Addr} {n c : Nat} {xs : List (List Int)} (h : Rows2 w S A n c xs) (he : Ext w w') : Rows2 w' S A n c xs := by
  obtain ⟨vs, h1, h2⟩ := h
  exact ⟨vs, h1.extNew he, h2.imp fun _ _ k => k.ext he⟩
theorem Rows2.mono {w : World} {S S' : Nat → Prop} {A : Option Addr} {n c : Nat} {xs : List (List Int)} (h : Rows2 w S A n c xs) (hS : ∀ i, i < w.heap.size → S i → S' i) : Rows2 w S' A n c xs := by
  obtain ⟨vs, h1, h2⟩ := h
  exact ⟨vs, h1.mono hS, h2.imp fun _ _ k => k.mono hS⟩
theorem Rows2.len {w : World} {S : Nat → Prop} {A : Option Addr} {n c : Nat} {xs : List (List Int)} (h : Rows2 w S A n c xs) : xs.length = n := by
  obtain ⟨vs, h1, h2⟩ := h
  have := h1.row.1
  have := h2.len
  omega
theorem dec_t {p : Prop} [Decidable p] (h : p) : Value.bool true = Value.bool (decide p) := by rw [decide_eq_true h]
theorem dec_f {p : Prop} [Decidable p] (h : ¬ p) : Value.bool false = Value.bool (decide p) := by rw [decide_eq_false h]
/-- A frame's three cells. -/
theorem item_at {Z : Nat → Prop} {w0 w : World} {e : TypeId} {A : Option Addr} {n c : Nat} {rows : List Row} (h : Items Z w0 w e A n c rows) {k : Nat} {r : Row} (hr : rows[k]? = some r) : ∃ ad, A = some ad ∧ w.cell? (ad.add (k * 3)) = some (.int .i64 r.p) ∧
    w.cell? ⟨(ad.add (k * 3)).block, (ad.add (k * 3)).off + 1, none⟩ = some (.int .u16 r.k) ∧ w.cell? ⟨(ad.add (k * 3)).block, (ad.add (k * 3)).off + 2, none⟩ = some (.slice r.A r.n r.c) := by
  have g := fun j => get_flat Row.cells 3 (fun _ => rfl) rows k j r hr
  obtain ⟨ad, hA, k0⟩ := own_cell h.own (j := k * 3 + 0) (u := .int .i64 r.p) (by rw [g 0 (by omega)]; rfl)
  obtain ⟨ad1, hA1, k1⟩ := own_cell h.own (j := k * 3 + 1) (u := .int .u16 r.k) (by rw [g 1 (by omega)]; rfl)
  obtain ⟨ad2, hA2, k2⟩ := own_cell h.own (j := k * 3 + 2) (u := .slice r.A r.n r.c) (by rw [g 2 (by omega)]; rfl)
  rw [hA] at hA1 hA2
  cases hA1
  cases hA2
  rw [Nat.add_zero] at k0
  rw [← add_of_add] at k1 k2
  exact ⟨ad, hA, k0, k1, k2⟩
set_option maxRecDepth 100000 in
theorem rest_calls (g : Nat) (xs : List Int) (torn : Bool) (w : World) (hr : Pack.Reader w g xs torn) (hx : xs.length ≤ 1099511627776) :
    Calls Try.prog 178 #[.pointer (some ⟨g, 0, none⟩)] w fun e w' => ∃ A c, e = .returned (.slice A xs.length c) ∧ New w w' 5 1 A xs.length c (nums .u8 xs) ∧ Chg (fun i => i = g) w w' := by
  have HR := Lib.hid hr
  clear hr
  go_enter Try.func178, Try.ntmps178
  go_wp2_with fail
  refine (Pack.left_calls g xs torn _ HR.out).mono ?_
  rintro e w' ⟨rfl, rfl⟩
  go_wp2_with fail
  refine (Pack.rraw_yes g xs torn xs.length _ HR.out (by omega) (Int.le_refl _) hx).mono ?_
  rintro e w1 ⟨A, c, rfl, ho, _, hc⟩
  rw [Int.toNat_natCast] at *
  rw [List.take_length] at ho
  go_wp2_with fail
  go_ret
  exact ⟨A, c, rfl, ho, hc⟩
set_option maxRecDepth 100000 in
set_option maxHeartbeats 1000000 in
theorem frame_calls (num : Int) (B : Option Addr) (m d : Nat) (ys : List Int) (w : World) (hr : Rd w .u8 B m ys) (hm : m ≤ 60000) (h0 : 0 ≤ num) (h1 : num < 18446744073709551616) :
    Calls Try.prog 167 #[.int .u64 num, .slice B m d] w fun e w' => ∃ A' c', e = .returned (.slice A' (20 + m) c') ∧ New w w' 5 1 A' (20 + m) c' (nums .u8 (frame num ys)) ∧ Ext w w' := by
  obtain rfl := hr.len
  have hS : ∀ i, (w.alloc (.cells #[.slice none 0 0] 190)).heap.size ≤ i → w.heap.size ≤ i := fun i hi => by simp at hi; omega
  go_enter Try.func167, Try.ntmps167
  go_wp2_with fail
  refine (Pack.num_calls (fun i => w.heap.size ≤ i) w.heap.size [] num 8 _ hS (Pack.writer_new _ _ (Nat.le_refl _)) (by omega) (by omega) h0 h1 (by simp)).mono ?_
  rintro e w1 ⟨rfl, hw1, hc1⟩
  have hx1 := ((Ext.refl w).alloc (.cells #[.slice none 0 0] 190)).chg hc1 (fun _ h => h)
  have hl : (([] : List Int) ++ Le.le (8 : Int).toNat num) = Le.le 8 num := rfl
  rw [hl] at hw1
  have hll : (Le.le 8 num).length = 8 := Le.le_length _ _
  clear hc1 hl
  go_wp2_with fail
  refine (Pack.wraw_calls (fun i => w.heap.size ≤ i) w.heap.size _ B _ d ys _ (fun i hi => Nat.le_trans hx1.size hi) hw1 (hr.ext hx1) (by omega) (by omega)).mono ?_
  rintro e w2 ⟨rfl, hw2, hc2⟩
  have hx2 := hx1.chg hc2 (fun _ h => h)
  clear hw1 hc2
  go_wp2_with fail
  refine (Pack.bytes_calls _ _ _ _ hw2 (by simp [hll]; omega)).mono ?_
  rintro e w3 ⟨A3, c3, rfl, ho3, hb3⟩
  have hx3 := hx2.trans hb3
  have hln : (Le.le 8 num ++ ys).length = 8 + ys.length := by simp [hll]
  rw [hln] at ho3
  have hr3 := ho3.rd hw2.wf
  clear hw2 hb3 ho3
  go_wp2_with fail
  refine (SealFrame.frame_calls 2 A3 (8 + ys.length) c3 (Le.le 8 num ++ ys) _ (by omega) (by omega) (by rw [← hln]; rw [hln]; exact hr3) (by omega)).mono ?_
  rintro e w4 ⟨A4, c4, rfl, ho4, hb4⟩
  go_wp2_with fail
  go_ret
  refine ⟨A4, c4, by rw [show 12 + (8 + ys.length) = 20 + ys.length by omega]; rfl, ?_, hx3.trans hb4⟩
  rw [show 12 + (8 + ys.length) = 20 + ys.length by omega] at ho4
  exact ho4.mono fun i _ hi => Nat.le_trans hx3.size hi
set_option maxRecDepth 100000 in
set_option maxHeartbeats 4000000 in
theorem records_calls (A : Option Addr) (n c : Nat) (xs : List Int) (w : World) (hr : Rd w .u8 A n xs) (hc : n ≤ c) (h0 : A = none → c = 0) (hn : n ≤ 1099511627776) :
    Calls Try.prog 152 #[.slice A n c] w fun e w' => Ext w w' ∧ ∃ A' m c', e = .returned (.tuple #[.slice A' m c', .int .i64 (records xs).2]) ∧ Rows2 w' (fun i => w.heap.size ≤ i) A' m c' (records xs).1 := by
  have HL := Lib.hid hr.len
  have HU : Hid (Le.U8s xs) := Lib.hid fun x hx => wf_u8 (hr.wf x hx)
  go_enter Try.func152, Try.ntmps152
  go_wp2_with fail
  refine (Scan.scan_at A n c xs _ hr hc h0 hn).mono ?_
  rintro e w1 ⟨he1, A1, c1, rows, rfl, hi1, hrows⟩
  have HREC : Hid (records xs = recs (Frm.scan n 0 xs) 0 (Frm.used n 0 xs)) := Lib.hid (by unfold records; rw [HL.out])
  have hln := DiaryP.scan_count n 0 xs
  have HLE := Lib.hid (DiaryP.scan_len n 0 xs)
  generalize Frm.scan n 0 xs = l at *
  generalize Frm.used n 0 xs = u at *
  have hsz1 := he1.size
  have HR := Lib.hid hrows
  have HX1 := Lib.hid he1
  clear hrows hr hc h0 he1
  go_wp2_with fail
  go_loopw [4, 18] (fun o i wr => ∃ (k : Nat) (A' : Option Addr) (c' : Nat), o = .slice A' k c' ∧ i = .int .i64 k ∧ k ≤ l.length ∧ Ext w1 wr ∧ Rows2 wr (fun i => w1.heap.size ≤ i) A' k c' (outs (l.take k)) ∧ recs l 0 u = (outs (l.take k) ++ (recs (l.drop k) k u).1, (recs (l.drop k) k u).2)) (fun _ i _ => l.length - (intOf i).toNat)
  case atStart => exact ⟨0, none, 0, rfl, rfl, Nat.zero_le _, Ext.refl _, ⟨[], Own.nil _ _ _ _, Each.nil _⟩, by simp [outs]⟩
  case round =>
    obtain ⟨k, A', c', rfl, rfl, hk, hx, hrows, hrec⟩ := hrel
    have HRE := Lib.hid hrec
    clear hrec
    by_cases hlt : k < l.length
    · obtain ⟨r, hrk⟩ : ∃ r, rows[k]? = some r := ⟨_, List.getElem?_eq_getElem (by have := congrArg List.length HR.out; simp at this; omega)⟩
      have HIT : Hid (l[k]? = some r.it) := Lib.hid (by rw [← HR.out, List.getElem?_map, hrk]; rfl)
      have hi := hi1.ext hx
      obtain ⟨ad, rfl, k0, k1, k2⟩ := item_at hi hrk
      have hrm := List.mem_of_getElem? hrk
      have hrd := (hi.rd r hrm).1
      have hcap := hi.cap r hrm
      clear hrk hrm
      obtain ⟨p, kd, B, m, d, ys⟩ := r
      dsimp only at hrd hcap k0 k1 k2
      obtain rfl := hrd.len
      have hE4 := Ext.new wr (.cells #[.int .i64 p, .int .u16 kd, .slice B ys.length d] 321)
      have hyl : ys.length ≤ 1099511627776 := by
        have := HLE.out _ (List.mem_of_getElem? HIT.out)
        have h2 : ys.length ≤ xs.length := this
        rw [HL.out] at h2
        omega
      have hw := hrd.wf
      go_wp2_with fail
      refine (Pack.read_calls B ys.length d ys _ (hrd.ext hE4) hcap.1 hcap.2).mono ?_
      rintro e w5 ⟨rfl, hr5, hb5⟩
      have z0 := blk_cell (at_new wr (.cells #[.int .i64 p, .int .u16 kd, .slice B ys.length d] 321)) hb5 (i := 0) rfl
      have z1 := blk_cell (at_new wr (.cells #[.int .i64 p, .int .u16 kd, .slice B ys.length d] 321)) hb5 (i := 1) rfl
      have hsz5 := hb5.size
      have hE5 := hE4.trans hb5
      have hG : (wr.alloc (.cells #[.int .i64 p, .int .u16 kd, .slice B ys.length d] 321)).heap.size = wr.heap.size + 1 := by simp
      rw [hG] at hr5 hsz5 ⊢
      clear hb5 hE4 hrd hG
      go_wp2_with fail
      refine (Pack.rnum_calls _ ys false 8 _ hr5 (by omega) (by omega) hyl).mono ?_
      rintro e w6 ⟨rfl, hr6, hc6⟩
      have h8 : (8 : Int).toNat = 8 := rfl
      rw [h8] at hr6 ⊢
      have y0 := hc6.cell z0 (by simp)
      have y1 := hc6.cell z1 (by simp)
      have hX6 : Ext wr w6 := hE5.chg hc6 (fun i hi => by rw [hi]; omega)
      have hsz6 := hc6.size
      have hu8 : Le.U8s ys := fun x hx => wf_u8 (hw x hx)
      clear hr5 hc6 z0 z1 h8 hE5
      have HOK : Hid (okAt k (p, kd, ys) ↔ (kd = 2 ∧ 8 ≤ ys.length ∧ ys.length ≤ 60008 ∧ Le.of (ys.take 8) = (k : Int) + 1)) := Lib.hid Iff.rfl
      go_upto_region 8 with fail
      go_cut [10, 18, 46] from 18 to 55 (fun _ i t wx => i = .int .i64 k ∧ t = .bool (decide (¬ okAt k (p, kd, ys))) ∧ w6 = wx)
      case first =>
        have c1 : IntKind.u64.wrap (k : Int) = k := wrap_u64 (by omega) (by omega)
        have c2 : IntKind.u64.wrap ((k : Int) + 1) = k + 1 := wrap_u64 (by omega) (by omega)
        by_cases a1 : kd = 2
        · by_cases a2 : 8 ≤ ys.length
          · have e1 : Pack.rt 8 ys false = false := if_pos a2
            have e2 : Pack.rx 8 ys = ys.drop 8 := if_pos a2
            have e3 : Pack.rn 8 ys = Le.of (ys.take 8) := if_pos a2
            rw [e1, e2] at hr6
            rw [e3]
            clear e1 e2 e3
            obtain ⟨N, hN⟩ : ∃ N, Le.of (ys.take 8) = N := ⟨_, rfl⟩
            rw [hN]
            have HN := Lib.hid hN
            clear hN
            subst a1
            by_cases a3 : N = (k : Int) + 1
            · have hb3 : (N != (k : Int) + 1) = false := by rw [a3]; simp
              have HA3 := Lib.hid a3
              clear a3
              go_wp2_with fail
              refine (Pack.torn_calls _ _ _ _ hr6).mono ?_
              rintro e w' ⟨rfl, rfl⟩
              go_wp2_with fail
              refine (Pack.left_calls _ _ _ _ hr6).mono ?_
              rintro e w' ⟨rfl, rfl⟩
              have hdl : ((ys.drop 8).length : Int) = ys.length - 8 := by rw [List.length_drop]; omega
              rw [hdl]
              go_wp2_with fail
              go_meet
              refine ⟨rfl, congrArg Value.bool (decide_eq_decide.2 ⟨fun h h2 => ?_, fun h => ?_⟩), rfl⟩
              · have h4 : ys.length ≤ 60008 := by first | exact (HOK.out.1 h2).2.2.1 | exact (HOK.out.1 h2).2.1
                omega
              · rcases Int.lt_or_le 60000 ((ys.length : Int) - 8) with h4 | h4
                · exact h4
                · exact absurd (HOK.out.2 ⟨by simp, a2, by omega, HN.out.trans HA3.out⟩) h
            · have hb3 : (N != (k : Int) + 1) = true := by rw [bne_iff_ne]; exact a3
              have HA3 := Lib.hid a3
              clear a3
              go_wp2_with fail
              refine (Pack.torn_calls _ _ _ _ hr6).mono ?_
              rintro e w' ⟨rfl, rfl⟩
              go_wp2_with fail
              go_meet
              exact ⟨rfl, dec_t fun h => HA3.out (HN.out.symm.trans (HOK.out.1 h).2.2.2), rfl⟩
          · have e1 : Pack.rt 8 ys false = true := if_neg a2
            rw [e1] at hr6
            have HA2 := Lib.hid a2
            clear e1 a2
            subst a1
            go_wp2_with fail
            refine (Pack.torn_calls _ _ _ _ hr6).mono ?_
            rintro e w' ⟨rfl, rfl⟩
            go_wp2_with fail
            go_meet
            exact ⟨rfl, dec_t fun h => HA2.out (HOK.out.1 h).2.1, rfl⟩
        · have hb1 : (kd != 2) = true := by rw [bne_iff_ne]; exact a1
          have HA1 := Lib.hid a1
          clear a1
          go_wp2_with fail
          go_meet
          exact ⟨rfl, dec_t fun h => HA1.out (HOK.out.1 h).1, rfl⟩
      case rest =>
        obtain ⟨rfl, rfl, rfl⟩ := hcut
        by_cases hok : okAt k (p, kd, ys)
        · have hb : decide (¬ okAt k (p, kd, ys)) = false := decide_eq_false fun h => h hok
          have h8 := (HOK.out.1 hok).2.1
          have e2 : Pack.rx 8 ys = ys.drop 8 := if_pos h8
          rw [e2] at hr6
          rw [hb]
          have HS : Hid (recs l 0 u = (outs (l.take (k + 1)) ++ (recs (l.drop (k + 1)) (k + 1) u).1, (recs (l.drop (k + 1)) (k + 1) u).2)) := Lib.hid (by
            rw [HRE.out, DiaryP.recs_go HIT.out hok, DiaryP.outs_next HIT.out, List.append_assoc]; rfl)
          have HO : Hid (outs (l.take (k + 1)) = outs (l.take k) ++ [ys.drop 8]) := Lib.hid (DiaryP.outs_next HIT.out)
          have hX6' := hx.trans hX6
          clear hok hb e2 HOK hi
          go_wp2_with fail
          refine (rest_calls _ _ _ _ hr6 (by rw [List.length_drop]; omega)).mono ?_
          rintro e w7 ⟨A7, c7, rfl, ho7, hc7⟩
          have hsz7 := hc7.size
          have hX7 : Ext wr w7 := hX6.chg hc7 (fun i hi => by rw [hi]; omega)
          have hE8 := hX7.trans (Ext.new w7 (.cells #[.slice A7 (ys.drop 8).length c7] 55))
          obtain ⟨vs, ho, hrep⟩ := hrows
          have hwf7 : ∀ x ∈ ys.drop 8, (Lit.int .u8 x).wf = true := fun x hx => hw x (List.mem_of_mem_drop hx)
          have hb7 := (Bytes.new ho7 hwf7).ext (Ext.new w7 (.cells #[.slice A7 (ys.drop 8).length c7] 55))
          have hvs : ∀ (j : Nat) v, [Value.slice A7 (ys.drop 8).length c7][j]? = some v → (w7.alloc (.cells #[.slice A7 (ys.drop 8).length c7] 55)).cell? ⟨w7.heap.size, j, none⟩ = some v := fun j v hv => blk_cell (at_new w7 _) (Ext.refl _) (by simpa using hv)
          have hown := ho.extNew hE8
          have hsx := hx.size
          have hsz8 := hE8.size
          generalize (ys.drop 8).length = q at *
          clear hr6 hc7 ho7 y0 y1
          go_wp2_with (at_builtin; refine wpList_appE _ rfl _ _ _ rfl (fun i => w1.heap.size ≤ i) 55 _ 1 24 Try.underlying132 info_b rfl (by decide) (by decide) (.slice A' k c') k vs rfl hown w7.heap.size 1 [.slice A7 q c7] rfl rfl hvs (by simp [Value.oneCell']) ?c2 (fun i hi => by omega) ?_)
          case c2 => omega
          intro A9 c9 w9 ho9 hc9
          have hsz9 := hc9.size
          have hX9 : Ext w1 w9 := (hx.trans hE8).chg hc9 fun i hi => ho.foot i hi
          have hrows9 : Rows2 w9 (fun i => w1.heap.size ≤ i) A9 (k + 1) c9 (outs (l.take (k + 1))) := by
            rw [HO.out]
            exact ⟨_, ho9, (hrep.imp fun _ _ b => (b.ext hE8).kind hc9 (own_kinds hown (by decide))).snoc (((hb7.kind hc9 (own_kinds hown (by decide)))).mono fun i _ hi => by omega)⟩
          clear ho hrep hb7 hvs hown ho9 hc9 hE8 hx hX6 hX6' hX7
          go_wp2_with fail
          go_roundw
          case rel => exact ⟨k + 1, _, _, rfl, by go_num, by omega, hX9, hrows9, HS.out⟩
          case measure => simp [intOf]; omega
        · have hb : decide (¬ okAt k (p, kd, ys)) = true := decide_eq_true hok
          rw [hb]
          have HE : Hid (records xs = (outs (l.take k), p)) := Lib.hid (by
            rw [HREC.out, HRE.out, DiaryP.recs_stop HIT.out hok, List.append_nil]; rfl)
          have d0 : ∀ W, Ext w6.drew W → W.cell? ⟨wr.heap.size, 0, none⟩ = some (.int .i64 p) := fun W hW => (drew_ext hW).cell_ y0
          have HX := Lib.hid (HX1.out.trans (hx.trans hX6))
          have hrows6 := hrows.ext hX6
          clear hok hb HOK hX6 hx hi hi1 hrows hr6
          go_wp2_with fail
          refine Lex.wp_region_ext [] (by kernel_rfl) (by kernel_rfl) (by repeat (first | exact Lex.st_nil | refine Lex.st_cons (by first | exact Lex.nums_st | exact Lex.const_st | exact Lex.such_st | exact Lex.row_st | exact Lex.rowE_st | exact Lex.litR_st | assumption) ?_)) ?_
          repeat (first | (refine Lex.lex_skip (by rfl) ?_; simp only [Act.put, List.setIfInBounds_toArray, List.set_cons_zero, List.set_cons_succ]) | (refine Lex.lex_still (by rfl) (by rfl) ?_; apply Exists.intro; refine ⟨fun W hW => ?_, ?_⟩; (have hE := hW.1; have hE2 := Base.Ext.trans (Base.Ext.drew (Base.Ext.refl _)) hW.1; clear hW; go_simp; try with_reducible rfl); simp only [Act.put, List.setIfInBounds_toArray, List.set_cons_zero, List.set_cons_succ]))
          refine Lex.lex_nil (fun W hW => ?_)
          have hX9 := drew_ext hW.1
          clear hW d0
          go_wp2_with fail
          go_ret2
          rw [HE.out]
          exact ⟨HX.out.trans hX9, A', k, c', rfl, (hrows6.ext hX9).mono fun i _ hi => Nat.le_trans hsz1 hi⟩
    · obtain rfl : k = l.length := by omega
      rw [List.take_length] at hrows
      have HE : Hid (records xs = (outs l, u)) := Lib.hid (by
        rw [HREC.out, HRE.out, DiaryP.recs_end, List.take_length, List.append_nil])
      have HX := Lib.hid (HX1.out.trans hx)
      clear hx hi1
      go_wp2_with fail
      go_ret2
      rw [HE.out]
      exact ⟨HX.out, A', l.length, c', rfl, hrows.mono fun i _ hi => Nat.le_trans hsz1 hi⟩
end Go.Proofs.Ytipmkddcdnbihaa.DiaryRec
namespace Go.Proofs.Ytipmkddcdnbihaa.Diary
open Go.RowKit Base Step Vec
open DiaryP (records frame)
open DiaryRec (Rows2 info_b)

structure DiaryIs (w : World) (S : Nat → Prop) (g gt : Nat) (A : Option Addr) (m c n : Nat) (xs : List (List Int)) : Prop where
  at_ : w.heap[g]? = some (.cells #[.pointer (some ⟨gt, 0, none⟩), .slice A m c, .int .i64 n] 266 (0, 0))
  rows : Rows2 w S A m c xs
  foot : S g
  lt : ∀ i, S i → i < w.heap.size
  n : n ≤ m
/-- A diary at block g over the tape at block gt, all of it (but the tape) in blocks of S: its records, and how many are safe. -/
def Diary (w : World) (S : Nat → Prop) (g gt : Nat) (xs : List (List Int)) (n : Nat) : Prop := ∃ A m c, DiaryIs w S g gt A m c n xs
theorem Rows2.chg {w w' : World} {S S2 : Nat → Prop} {A : Option Addr} {m c : Nat} {xs : List (List Int)} (h : Rows2 w S A m c xs) (hc : Chg S2 w w') (hd : ∀ i, S i → ¬ S2 i) : Rows2 w' S A m c xs := by
  obtain ⟨vs, h1, h2⟩ := h
  exact ⟨vs, h1.chg hc hd, h2.imp fun _ _ k => k.chg hc hd⟩
theorem Rows2.put {w : World} {S : Nat → Prop} {A : Option Addr} {m c : Nat} {xs : List (List Int)} (h : Rows2 w S A m c xs) {g i : Nat} {cs : Array Value} {f : Nat × Nat} (hb : w.heap[g]? = some (.cells cs 266 f)) (u : Value) : Rows2 (w.setCell ⟨g, i, none⟩ u) S A m c xs := by
  obtain ⟨vs, h1, h2⟩ := h
  exact ⟨vs, own_put h1 hb (by decide), h2.imp fun _ _ k => k.put hb (by decide) _⟩
theorem own_room {w : World} {S : Nat → Prop} {e : TypeId} {size n : Nat} {v : Value} {xs : List Value} (h : Own w S e size v n xs) : n ≤ 9223372036854775807 := by
  rcases h.row.2 with ⟨_, h1⟩ | ⟨g', cap', cur, he, _, _, h1, h2, _⟩
  · omega
  · simp only [maxLen] at h2
    omega
section
variable {w w' : World} {S S2 : Nat → Prop} {g gt : Nat} {A : Option Addr} {m c n : Nat} {xs : List (List Int)}
theorem DiaryIs.ext (h : DiaryIs w S g gt A m c n xs) (he : Ext w w') : DiaryIs w' S g gt A m c n xs := ⟨he.at_ h.at_, h.rows.ext he, h.foot, fun i hi => he.lt (h.lt i hi), h.n⟩
theorem DiaryIs.chg (h : DiaryIs w S g gt A m c n xs) (hc : Chg S2 w w') (hd : ∀ i, S i → ¬ S2 i) : DiaryIs w' S g gt A m c n xs := ⟨hc.at_ h.at_ (hd _ h.foot), Rows2.chg h.rows hc hd, h.foot, fun i hi => Nat.lt_of_lt_of_le (h.lt i hi) hc.size, h.n⟩
theorem Diary.ext (h : Diary w S g gt xs n) (he : Ext w w') : Diary w' S g gt xs n := by
  obtain ⟨A, m, c, h⟩ := h
  exact ⟨A, m, c, h.ext he⟩
theorem Diary.chg (h : Diary w S g gt xs n) (hc : Chg S2 w w') (hd : ∀ i, S i → ¬ S2 i) : Diary w' S g gt xs n := by
  obtain ⟨A, m, c, h⟩ := h
  exact ⟨A, m, c, h.chg hc hd⟩
theorem Diary.lt (h : Diary w S g gt xs n) : ∀ i, S i → i < w.heap.size := by
  obtain ⟨A, m, c, h⟩ := h
  exact h.lt
theorem Diary.n_le (h : Diary w S g gt xs n) : n ≤ xs.length := by
  obtain ⟨A, m, c, h⟩ := h
  rw [h.rows.len]
  exact h.n
theorem DiaryIs.flds (h : DiaryIs w S g gt A m c n xs) : (∀ W, Ext w W → W.cell? ⟨g, 0, none⟩ = some (.pointer (some ⟨gt, 0, none⟩))) ∧ (∀ W, Ext w W → W.cell? ⟨g, 1, none⟩ = some (.slice A m c)) ∧ (∀ W, Ext w W → W.cell? ⟨g, 2, none⟩ = some (.int .i64 n)) :=
  ⟨fun _ he => blk_cell h.at_ he rfl, fun _ he => blk_cell h.at_ he rfl, fun _ he => blk_cell h.at_ he rfl⟩
end
/-- A tape, and a diary over it. -/
structure Both (w : World) (St Sd : Nat → Prop) (gt g : Nat) (bs : List Int) (safe : Nat) (most : Int) (xs : List (List Int)) (n : Nat) : Prop where
  t : Tape.Tape w St gt bs safe most
  d : Diary w Sd g gt xs n
  sep : ∀ i, St i → ¬ Sd i
theorem Both.ext {w w' : World} {St Sd : Nat → Prop} {gt g : Nat} {bs : List Int} {safe : Nat} {most : Int} {xs : List (List Int)} {n : Nat} (h : Both w St Sd gt g bs safe most xs n) (he : Ext w w') : Both w' St Sd gt g bs safe most xs n := ⟨h.t.ext he, h.d.ext he, h.sep⟩
/-- What a call on both writes, and where both lie behind it. -/
def Or2 (S T : Nat → Prop) : Nat → Prop := fun i => S i ∨ T i

set_option maxRecDepth 100000 in
set_option maxHeartbeats 1000000 in
theorem open_calls (S : Nat → Prop) (gt : Nat) (bs : List Int) (safe : Nat) (most : Int) (w : World) (h : Tape.Tape w S gt bs safe most) (hx : bs.length ≤ 1099511627776) :
    Calls Try.prog 87 #[.pointer (some ⟨gt, 0, none⟩)] w fun e w' => ∃ (g : Nat) (S' Sd : Nat → Prop), e = .returned (.tuple #[.pointer (some ⟨g, 0, none⟩), .int .i64 0]) ∧ Both w' S' Sd gt g (bs.take (records bs).2.toNat) (records bs).2.toNat most (records bs).1 (records bs).1.length ∧ Chg S w w' ∧ (∀ i, S' i → S i ∨ w.heap.size ≤ i) ∧ (∀ i, Sd i → w.heap.size ≤ i) := by
  have hwf := h.wf
  have hru := DiaryP.records_used (xs := bs) fun x hx => wf_u8 (hwf x hx)
  obtain ⟨u, hu⟩ := Int.eq_ofNat_of_zero_le hru.1
  have HT := Lib.hid h
  have HL := Lib.hid h.lt
  go_enter Try.func87, Try.ntmps87
  go_wp2_with fail
  refine (Tape.read_calls S gt bs safe most _ h hx).mono ?_
  rintro e w1 ⟨he1, A1, c1, rfl, ho1⟩
  go_wp2_with fail
  refine (DiaryRec.records_calls A1 bs.length c1 bs _ (ho1.rd hwf) ho1.cap.1 ho1.cap.2 hx).mono ?_
  rintro e w2 ⟨he2, A2, m, c2, rfl, hr2⟩
  have he12 := he1.trans he2
  have hsz12 := he12.size
  have hsz1 := he1.size
  have hml := hr2.len
  have HU := Lib.hid hu
  have hul : u ≤ bs.length := by omega
  rw [hu]
  clear hu hru
  go_wp2_with fail
  refine (Tape.cut_calls S gt bs safe most u _ (h.ext he12) hul hx).mono ?_
  rintro e w3 ⟨rfl, S3, ht3, hst3⟩
  have hsz3 := hst3.size
  have hr3 : Rows2 w3 (fun i => w1.heap.size ≤ i ∧ i < w2.heap.size) A2 m c2 (records bs).1 := Rows2.chg (hr2.mono fun i hlt hi => ⟨hi, hlt⟩) hst3.chg fun i hi hS => by
    have := HL.out i hS
    omega
  have hlt3 := ht3.lt
  go_wp2_with fail
  go_ret2
  have hnew := Ext.new w3 (.cells #[.pointer (some ⟨gt, 0, none⟩), .slice A2 m c2, .int .i64 m] 266)
  have hln : (records bs).1.length = m := hml
  rw [HU.out, hln]
  refine ⟨w3.heap.size, S3, fun i => (w1.heap.size ≤ i ∧ i < w2.heap.size) ∨ i = w3.heap.size, rfl, ⟨ht3.ext hnew, ⟨A2, m, c2, at_new _ _, (hr3.ext hnew).mono fun i _ hi => .inl hi, .inr rfl, fun i hi => by simp; omega, Nat.le_refl _⟩, fun i hi hd => ?_⟩, (chg_ext (ext_chg he12 hst3.chg) hnew), fun i hi => (hst3.grow i hi).imp id fun h2 => by omega, fun i hi => by omega⟩
  have h1 := hlt3 i hi
  rcases hd with hd | hd
  · rcases hst3.grow i hi with h2 | h2
    · have := HL.out i h2
      omega
    · omega
  · omega
set_option maxRecDepth 100000 in
theorem len_calls (S : Nat → Prop) (g gt : Nat) (xs : List (List Int)) (n : Nat) (w : World) (h : Diary w S g gt xs n) :
    Calls Try.prog 88 #[.pointer (some ⟨g, 0, none⟩)] w fun e w' => e = .returned (.tuple #[.int .i64 xs.length, .int .i64 n]) ∧ Ext w w' := by
  obtain ⟨A, m, c, h⟩ := h
  obtain rfl := h.rows.len
  obtain ⟨_, d0, d1⟩ := h.flds
  replace d0 : ∀ W, Ext w.drew W → W.cell? ⟨g, 1, none⟩ = some (.slice A xs.length c) := fun W hW => d0 W (drew_ext hW)
  replace d1 : ∀ W, Ext w.drew W → W.cell? ⟨g, 2, none⟩ = some (.int .i64 n) := fun W hW => d1 W (drew_ext hW)
  go_enter Try.func88, Try.ntmps88
  go_wp2_with fail
  refine Lex.wp_region_ext [] (by kernel_rfl) (by kernel_rfl) (by repeat (first | exact Lex.st_nil | refine Lex.st_cons (by first | exact Lex.nums_st | exact Lex.const_st | exact Lex.such_st | exact Lex.row_st | exact Lex.rowE_st | exact Lex.litR_st | assumption) ?_)) ?_
  repeat (first | (refine Lex.lex_skip (by rfl) ?_; simp only [Act.put, List.setIfInBounds_toArray, List.set_cons_zero, List.set_cons_succ]) | (refine Lex.lex_still (by rfl) (by rfl) ?_; apply Exists.intro; refine ⟨fun W hW => ?_, ?_⟩; (have hE := hW.1; have hE2 := Base.Ext.trans (Base.Ext.drew (Base.Ext.refl _)) hW.1; clear hW; go_simp; try with_reducible rfl); simp only [Act.put, List.setIfInBounds_toArray, List.set_cons_zero, List.set_cons_succ]))
  refine Lex.lex_nil (fun W hW => ?_)
  have hE := drew_ext hW.1
  clear hW
  go_wp2_with fail
  go_ret2
  exact ⟨rfl, hE⟩
theorem or2_l {S T : Nat → Prop} {w w' : World} (h : Chg S w w') : Chg (Or2 S T) w w' := h.mono fun _ _ hi => .inl hi
theorem or2_r {S T : Nat → Prop} {w w' : World} (h : Chg T w w') : Chg (Or2 S T) w w' := h.mono fun _ _ hi => .inr hi
theorem Rows2.take {w : World} {S : Nat → Prop} {A : Option Addr} {m c : Nat} {xs : List (List Int)} (h : Rows2 w S A m c xs) {k : Nat} (hk : k ≤ m) : Rows2 w S A k c (xs.take k) := by
  obtain ⟨vs, h1, h2⟩ := h
  have := own_takeG h1 hk
  rw [Nat.mul_one] at this
  exact ⟨_, this, h2.take k⟩
set_option maxRecDepth 100000 in
set_option maxHeartbeats 1000000 in
theorem sync_calls (St Sd : Nat → Prop) (gt g : Nat) (bs : List Int) (safe : Nat) (most : Int) (xs : List (List Int)) (n : Nat) (w : World) (h : Both w St Sd gt g bs safe most xs n) :
    Calls Try.prog 95 #[.pointer (some ⟨g, 0, none⟩)] w fun e w' => e = .returned (.int .i64 0) ∧ Both w' St Sd gt g bs bs.length most xs xs.length ∧ Chg (Or2 St Sd) w w' := by
  obtain ⟨ht, ⟨A, m, c, hd⟩, hs⟩ := h
  obtain rfl := hd.rows.len
  obtain ⟨d0, d1, d2⟩ := hd.flds
  have q0 := d0 _ (Ext.refl w)
  have q1 := d1 _ (Ext.refl w)
  have q2 := d2 _ (Ext.refl w)
  have f2 := blk_free hd.at_ (Ext.refl w) 2
  have hd3 : DiaryIs (w.setCell ⟨g, 2, none⟩ (.int .i64 xs.length)) Sd g gt A xs.length c xs.length xs := ⟨set_blk hd.at_ _, Rows2.put hd.rows hd.at_ _, hd.foot, fun i hi => by simpa using hd.lt i hi, Nat.le_refl _⟩
  have hc3 : Chg Sd w (w.setCell ⟨g, 2, none⟩ (.int .i64 xs.length)) := Chg.setCell (Chg.refl _ _) (p := ⟨g, 2, none⟩) hd.foot _
  have ht3 := ht.chg hc3 hs
  have q3 := hd3.flds.1 _ (Ext.refl _)
  clear d0 d1 d2
  go_enter Try.func95, Try.ntmps95
  go_wp2_with fail
  refine (Tape.sync_calls St gt bs safe most _ ht3).mono ?_
  rintro e w4 ⟨rfl, ht4, hst4⟩
  have hd4 := hd3.chg hst4.chg fun i hi h2 => hs i h2 hi
  go_wp2_with fail
  go_ret
  exact ⟨rfl, ⟨ht4, ⟨A, _, c, hd4⟩, hs⟩, (or2_r hc3).trans (or2_l hst4.chg)⟩
theorem frame_wf {num : Int} {ys : List Int} (h : ∀ x ∈ ys, (Lit.int .u8 x).wf = true) : ∀ x ∈ frame num ys, (Lit.int .u8 x).wf = true := fun x hx => by
  have := Frm.frame_u8 2 (Le.le 8 num ++ ys) (fun y hy => (List.mem_append.1 hy).elim (Le.le_u8 8 num y) fun h2 => wf_u8 (h y h2)) x hx
  exact u8_wf this.1 this.2
set_option maxRecDepth 100000 in
set_option maxHeartbeats 2000000 in
theorem write_calls (St Sd : Nat → Prop) (gt g : Nat) (bs : List Int) (safe : Nat) (most : Int) (xs : List (List Int)) (n : Nat) (w : World) (h : Both w St Sd gt g bs safe most xs n) (B : Option Addr) (m d : Nat) (ys : List Int) (hr : Rd w .u8 B m ys) (hoff : Off St B m)
    (hm : m ≤ 60000) (hb : bs.length ≤ 1099511627776) (hx : xs.length ≤ 1099511627776) (hfit : (bs.length : Int) + (20 + m : Nat) ≤ most) :
    Calls Try.prog 93 #[.pointer (some ⟨g, 0, none⟩), .slice B m d] w fun e w' => e = .returned (.int .i64 0) ∧ ∃ St' Sd', Both w' St' Sd' gt g (bs ++ frame ((xs.length : Int) + 1) ys) safe most (xs ++ [ys]) n ∧ Step (Or2 St Sd) (Or2 St' Sd') w w' := by
  obtain ⟨ht, ⟨A, k, c, hd⟩, hs⟩ := h
  obtain rfl := hd.rows.len
  obtain rfl := hr.len
  obtain ⟨d0, d1, d2⟩ := hd.flds
  have q0 := d0 _ (Ext.refl w)
  replace d0 : ∀ W, Ext w.drew W → W.cell? ⟨g, 0, none⟩ = some (.pointer (some ⟨gt, 0, none⟩)) := fun W hW => d0 W (drew_ext hW)
  replace d1 : ∀ W, Ext w.drew W → W.cell? ⟨g, 1, none⟩ = some (.slice A xs.length c) := fun W hW => d1 W (drew_ext hW)
  have c1 : IntKind.u64.wrap (xs.length : Int) = xs.length := wrap_u64 (by omega) (by omega)
  have c2 : IntKind.u64.wrap ((xs.length : Int) + 1) = xs.length + 1 := wrap_u64 (by omega) (by omega)
  have HF := Lib.hid fun W (hr : Rd W .u8 B ys.length ys) => DiaryRec.frame_calls ((xs.length : Int) + 1) B ys.length d ys W hr hm (by omega) (by omega)
  have HW := Lib.hid (frame_wf (num := (xs.length : Int) + 1) hr.wf)
  have HFIT := Lib.hid hfit
  have HFL := Lib.hid (DiaryP.frame_length ((xs.length : Int) + 1) ys)
  clear d2 hfit
  go_enter Try.func93, Try.ntmps93
  go_wp2_with fail
  refine Lex.wp_region_tail 13 [(12, .row w 5 .u8 (20 + ys.length) (frame ((xs.length : Int) + 1) ys))] (by kernel_rfl) (by kernel_rfl) (by repeat (first | exact Lex.st_nil | refine Lex.st_cons (by first | exact Lex.nums_st | exact Lex.const_st | exact Lex.such_st | exact Lex.row_st | exact Lex.rowE_st | exact Lex.litR_st | assumption) ?_)) ?_; simp only [List.take_succ_cons, List.take_zero, List.drop_succ_cons, List.drop_zero]
  repeat (first | (refine Lex.lexT_skip (by rfl) ?_; simp only [Act.put, List.setIfInBounds_toArray, List.set_cons_zero, List.set_cons_succ]) | (refine Lex.lexT_still (by rfl) (by rfl) ?_; apply Exists.intro; refine ⟨fun W hW => ?_, ?_⟩; (have hE := hW.1; have hE2 := Base.Ext.trans (Base.Ext.drew (Base.Ext.refl _)) hW.1; clear hW; go_simp; try with_reducible rfl); simp only [Act.put, List.setIfInBounds_toArray, List.set_cons_zero, List.set_cons_succ]))
  refine Lex.lexT_loose (by rfl) (by rfl) (fun W hW => ?_) ?_
  · have hE := drew_ext hW.1
    go_simp
    refine (HF.out _ (hr.ext hE)).mono ?_
    rintro e w10 ⟨A10, c10, rfl, ho10, he10⟩
    exact ⟨_, rfl, ⟨A10, c10, rfl, ho10.cap.1⟩, he10, Lex.row_mk (ho10.mono fun i _ hi => Nat.le_trans hE.size hi)⟩
  rintro v ⟨A5, c5, rfl, -⟩
  simp only [Act.put, List.setIfInBounds_toArray, List.set_cons_zero, List.set_cons_succ]
  repeat (first | (refine Lex.lexT_skip (by rfl) ?_; simp only [Act.put, List.setIfInBounds_toArray, List.set_cons_zero, List.set_cons_succ]) | (refine Lex.lexT_still (by rfl) (by rfl) ?_; apply Exists.intro; refine ⟨fun W hW => ?_, ?_⟩; (have hE := hW.1; have hE2 := Base.Ext.trans (Base.Ext.drew (Base.Ext.refl _)) hW.1; clear hW; go_simp; try with_reducible rfl); simp only [Act.put, List.setIfInBounds_toArray, List.set_cons_zero, List.set_cons_succ]))
  refine Lex.lexT_nil (fun W hW => ?_)
  have hE := drew_ext hW.1
  have ho5 := Lex.upd_here (hW.2 12) _ _ rfl
  have hr5 := ho5.rd HW.out
  have hszE := hE.size
  obtain ⟨fr, hfr⟩ : ∃ fr, frame ((xs.length : Int) + 1) ys = fr := ⟨_, rfl⟩
  rw [hfr] at ho5 hr5
  have HFR := Lib.hid hfr
  clear hfr
  clear hW d0 d1 c1 c2 q0
  go_wp2_with fail
  refine (Tape.append_calls St gt bs safe most A5 (20 + ys.length) c5 fr _ (ht.ext hE) hr5 hb (by omega) HFIT.out).mono ?_
  rintro e w4 ⟨rfl, S4, ht4, hst4⟩
  have hd4 := (hd.ext hE).chg hst4.chg fun i hi h2 => hs i h2 hi
  have hr4 : Rd w4 .u8 B ys.length ys := (hr.ext hE).chg hst4.chg fun ad ha h0 => hoff h0 ad ha
  have hsz4 := hst4.size
  have hlt4 := ht4.lt
  have d1 : ∀ W, Ext w4.drew W → W.cell? ⟨g, 1, none⟩ = some (.slice A xs.length c) := fun W hW => hd4.flds.2.1 W (drew_ext hW)
  clear ho5 hr5 HF
  go_wp2_with fail
  refine Lex.wp_region_ord [0] [1, 2, 3, 4, 5, 6, 7] [8, 9, 10, 11] [(6, .row w4 5 .u8 ys.length ys), (7, .litR [] w4 5 .u8 ys.length ys [])] (by kernel_rfl) (by kernel_rfl) (by repeat (first | exact Lex.st_nil | refine Lex.st_cons (by first | exact Lex.nums_st | exact Lex.const_st | exact Lex.such_st | exact Lex.row_st | exact Lex.rowE_st | exact Lex.litR_st | exact Lex.blkL_st) ?_)) ?_; simp only [Lex.pick, List.getElem?_cons_succ, List.getElem?_cons_zero, List.map_cons, List.map_nil]; repeat (refine Lex.preL_cons (by rfl) ?_; apply Exists.intro; refine ⟨fun W => ?_, ?_⟩; (go_simp; try with_reducible rfl); simp only [Act.put, List.setIfInBounds_toArray, List.set_cons_zero, List.set_cons_succ]); refine Lex.preL_nil ?_
  repeat (first | (refine Lex.lexH_skip (by rfl) ?_; simp only [Act.put, List.setIfInBounds_toArray, List.set_cons_zero, List.set_cons_succ]) | (refine Lex.lexH_still (by rfl) (by rfl) ?_; apply Exists.intro; refine ⟨fun W hW => ?_, ?_⟩; (have hE := hW.1; have hE2 := Base.Ext.trans (Base.Ext.drew (Base.Ext.refl _)) hW.1; clear hW; go_simp; try with_reducible rfl); simp only [Act.put, List.setIfInBounds_toArray, List.set_cons_zero, List.set_cons_succ]))
  refine Lex.lexH_loose (by rfl) (by rfl) (fun W hW => ?_) ?_
  · have hE2 := drew_ext hW.1
    go_simp
    refine (clone8 B ys.length d ys _ (hr4.ext hE2) (by omega)).mono ?_
    rintro e w10 ⟨he10, A10, c10, rfl, ho10⟩
    exact ⟨_, rfl, ⟨A10, c10, rfl, ho10.cap.1⟩, he10, Lex.row_mk (ho10.mono fun i _ hi => Nat.le_trans hE2.size hi)⟩
  rintro v ⟨A6, c6, rfl, -⟩
  simp only [Act.put, List.setIfInBounds_toArray, List.set_cons_zero, List.set_cons_succ]
  repeat (first | (refine Lex.lexH_skip (by rfl) ?_; simp only [Act.put, List.setIfInBounds_toArray, List.set_cons_zero, List.set_cons_succ]) | (refine Lex.lexH_still (by rfl) (by rfl) ?_; apply Exists.intro; refine ⟨fun W hW => ?_, ?_⟩; (have hE := hW.1; have hE2 := Base.Ext.trans (Base.Ext.drew (Base.Ext.refl _)) hW.1; clear hW; go_simp; try with_reducible rfl); simp only [Act.put, List.setIfInBounds_toArray, List.set_cons_zero, List.set_cons_succ]))
  refine Lex.lexH_loose (by rfl) (by rfl) (fun W hW => ?_) ?_
  · go_simp
    exact ⟨⟨_, rfl⟩, Ext.new _ _, Lex.lit_mk (vs := [.slice A6 ys.length c6]) ⟨A6, c6, rfl, (Lex.upd_here (hW.2 6 (by kernel_rfl)) _ _ rfl).extNew (Ext.new _ _)⟩⟩
  rintro v ⟨g6, rfl⟩
  simp only [Act.put, List.setIfInBounds_toArray, List.set_cons_zero, List.set_cons_succ]
  repeat (first | (refine Lex.lexH_skip (by rfl) ?_; simp only [Act.put, List.setIfInBounds_toArray, List.set_cons_zero, List.set_cons_succ]) | (refine Lex.lexH_still (by rfl) (by rfl) ?_; apply Exists.intro; refine ⟨fun W hW => ?_, ?_⟩; (have hE := hW.1; have hE2 := Base.Ext.trans (Base.Ext.drew (Base.Ext.refl _)) hW.1; clear hW; go_simp; try with_reducible rfl); simp only [Act.put, List.setIfInBounds_toArray, List.set_cons_zero, List.set_cons_succ]))
  refine Lex.lexH_nil (fun W hW => ?_)
  have hE6 := drew_ext hW.1
  obtain ⟨vs, ⟨A7, c7, rfl, ho7⟩, hvs⟩ := Lex.upd_here (hW.2 7) _ rfl
  have hd6 := hd4.ext hE6
  have hsz6 := hE6.size
  obtain ⟨ws, how, hrep⟩ := hd6.rows
  clear hW d1
  go_wp2_with (at_builtin; refine wpList_appE _ rfl _ _ _ rfl (fun i => Sd i ∨ w4.heap.size ≤ i) 55 _ 1 24 Try.underlying132 info_b rfl (by decide) (by decide) (.slice A xs.length c) _ ws rfl (how.mono fun i _ hi => .inl hi) g6 1 [.slice A7 ys.length c7] rfl rfl hvs (by simp [Value.oneCell']) ?c2 (fun i hi => .inr (Nat.le_trans hsz6 hi)) ?_)
  case c2 => omega
  intro A9 c9 w9 ho9 hc9
  have hsz9 := hc9.size
  have hat9 := hc9.at_ hd6.at_ (how.ne hd6.at_ (by decide))
  have hb7 : Bytes 5 w9 (Plus Sd w4 w9) (.slice A7 ys.length c7) ys := ((Bytes.new ho7 hr.wf).kind hc9 (own_kinds how (by decide))).mono fun i hlt hi => .inr ⟨hi, hlt⟩
  have hrows9 : Rows2 w9 (Plus Sd w4 w9) A9 (xs.length + 1) c9 (xs ++ [ys]) :=
    ⟨_, ho9.mono fun i hlt hi => hi.imp id fun h => ⟨h, hlt⟩, (hrep.imp fun _ _ b => (b.kind hc9 (own_kinds how (by decide))).mono fun i _ => .inl).snoc hb7⟩
  have hn := hd6.n
  have hd9 : DiaryIs (w9.setCell ⟨g, 1, none⟩ (.slice A9 (xs.length + 1) c9)) (Plus Sd w4 w9) g gt A9 (xs.length + 1) c9 n (xs ++ [ys]) :=
    ⟨set_blk hat9 _, Rows2.put hrows9 hat9 _, .inl hd.foot, fun i hi => by simpa using Plus.lt hd4.lt (by omega) i hi, by omega⟩
  have hq9 := blk_cell (i := 1) hat9 (Ext.refl _) rfl
  have hf9 := blk_free hat9 (Ext.refl _) 1
  have hsep4 : ∀ i, Sd i → ¬ S4 i := fun i hi h4 => (hst4.grow i h4).elim (fun h5 => hs i h5 hi) fun h5 => by have := hd.lt i hi; omega
  have hc9' : Chg Sd w4 (w9.setCell ⟨g, 1, none⟩ (.slice A9 (xs.length + 1) c9)) := (ext_chg hE6 (hc9.mono fun i _ hi => how.foot i hi)).setCell (p := ⟨g, 1, none⟩) hd.foot _
  have ht9 := ht4.chg hc9' fun i hi h2 => hsep4 i h2 hi
  have hsep9 : ∀ i, S4 i → ¬ Plus Sd w4 w9 i := fun i hi hp => hp.elim (fun h2 => hsep4 i h2 hi) fun h2 => by have := hlt4 i hi; omega
  have hch : Chg (Or2 St Sd) w (w9.setCell ⟨g, 1, none⟩ (.slice A9 (xs.length + 1) c9)) := (ext_chg hE (or2_l hst4.chg)).trans (or2_r hc9')
  have hgr : ∀ i, Or2 S4 (Plus Sd w4 w9) i → Or2 St Sd i ∨ w.heap.size ≤ i := fun i hi => by
    rcases hi with hi | hi | hi
    · exact (hst4.grow i hi).imp .inl fun h => by omega
    · exact .inl (.inr hi)
    · exact .inr (by omega)
  clear ho9 hc9 hrep how ho7 hvs hb7 hrows9 hd6 hd4 hst4
  go_wp2_with fail
  simp only [Lex.onlyN]
  go_wp2_with fail
  go_ret
  exact ⟨rfl, S4, _, ⟨by rw [HFR.out]; exact ht9, ⟨_, _, _, hd9⟩, hsep9⟩, hch, hgr⟩
set_option maxRecDepth 100000 in
set_option maxHeartbeats 2000000 in
theorem write_full (St Sd : Nat → Prop) (gt g : Nat) (bs : List Int) (safe : Nat) (most : Int) (xs : List (List Int)) (n : Nat) (w : World) (h : Both w St Sd gt g bs safe most xs n) (B : Option Addr) (m d : Nat) (ys : List Int) (hr : Rd w .u8 B m ys)
    (hm : m ≤ 60000) (hx : xs.length ≤ 1099511627776) (hfit : most < (bs.length : Int) + (20 + m : Nat)) :
    Calls Try.prog 93 #[.pointer (some ⟨g, 0, none⟩), .slice B m d] w fun e w' => e = .returned (.int .i64 20) ∧ Ext w w' := by
  obtain ⟨ht, ⟨A, k, c, hd⟩, hs⟩ := h
  obtain rfl := hd.rows.len
  obtain rfl := hr.len
  obtain ⟨d0, d1, d2⟩ := hd.flds
  have q0 := d0 _ (Ext.refl w)
  replace d0 : ∀ W, Ext w.drew W → W.cell? ⟨g, 0, none⟩ = some (.pointer (some ⟨gt, 0, none⟩)) := fun W hW => d0 W (drew_ext hW)
  replace d1 : ∀ W, Ext w.drew W → W.cell? ⟨g, 1, none⟩ = some (.slice A xs.length c) := fun W hW => d1 W (drew_ext hW)
  have c1 : IntKind.u64.wrap (xs.length : Int) = xs.length := wrap_u64 (by omega) (by omega)
  have c2 : IntKind.u64.wrap ((xs.length : Int) + 1) = xs.length + 1 := wrap_u64 (by omega) (by omega)
  have HF := Lib.hid fun W (hr : Rd W .u8 B ys.length ys) => DiaryRec.frame_calls ((xs.length : Int) + 1) B ys.length d ys W hr hm (by omega) (by omega)
  have HFIT := Lib.hid hfit
  clear d2 hfit
  go_enter Try.func93, Try.ntmps93
  go_wp2_with fail
  refine Lex.wp_region_tail 13 [(12, .row w 5 .u8 (20 + ys.length) (frame ((xs.length : Int) + 1) ys))] (by kernel_rfl) (by kernel_rfl) (by repeat (first | exact Lex.st_nil | refine Lex.st_cons (by first | exact Lex.nums_st | exact Lex.const_st | exact Lex.such_st | exact Lex.row_st | exact Lex.rowE_st | exact Lex.litR_st | assumption) ?_)) ?_; simp only [List.take_succ_cons, List.take_zero, List.drop_succ_cons, List.drop_zero]
  repeat (first | (refine Lex.lexT_skip (by rfl) ?_; simp only [Act.put, List.setIfInBounds_toArray, List.set_cons_zero, List.set_cons_succ]) | (refine Lex.lexT_still (by rfl) (by rfl) ?_; apply Exists.intro; refine ⟨fun W hW => ?_, ?_⟩; (have hE := hW.1; have hE2 := Base.Ext.trans (Base.Ext.drew (Base.Ext.refl _)) hW.1; clear hW; go_simp; try with_reducible rfl); simp only [Act.put, List.setIfInBounds_toArray, List.set_cons_zero, List.set_cons_succ]))
  refine Lex.lexT_loose (by rfl) (by rfl) (fun W hW => ?_) ?_
  · have hE := drew_ext hW.1
    go_simp
    refine (HF.out _ (hr.ext hE)).mono ?_
    rintro e w10 ⟨A10, c10, rfl, ho10, he10⟩
    exact ⟨_, rfl, ⟨A10, c10, rfl, ho10.cap.1⟩, he10, Lex.row_mk (ho10.mono fun i _ hi => Nat.le_trans hE.size hi)⟩
  rintro v ⟨A5, c5, rfl, -⟩
  simp only [Act.put, List.setIfInBounds_toArray, List.set_cons_zero, List.set_cons_succ]
  repeat (first | (refine Lex.lexT_skip (by rfl) ?_; simp only [Act.put, List.setIfInBounds_toArray, List.set_cons_zero, List.set_cons_succ]) | (refine Lex.lexT_still (by rfl) (by rfl) ?_; apply Exists.intro; refine ⟨fun W hW => ?_, ?_⟩; (have hE := hW.1; have hE2 := Base.Ext.trans (Base.Ext.drew (Base.Ext.refl _)) hW.1; clear hW; go_simp; try with_reducible rfl); simp only [Act.put, List.setIfInBounds_toArray, List.set_cons_zero, List.set_cons_succ]))
  refine Lex.lexT_nil (fun W hW => ?_)
  have hE := drew_ext hW.1
  clear hW d0 d1 c1 c2 q0
  go_wp2_with fail
  refine (Tape.append_full St gt bs safe most A5 (20 + ys.length) c5 _ (ht.ext hE) (by omega) HFIT.out).mono ?_
  rintro e w4 ⟨rfl, he4⟩
  go_wp2_with fail
  go_ret
  exact ⟨rfl, hE.trans he4⟩
set_option maxRecDepth 100000 in
set_option maxHeartbeats 1000000 in
theorem get_calls (S : Nat → Prop) (g gt : Nat) (xs : List (List Int)) (n : Nat) (w : World) (h : Diary w S g gt xs n) (k : Nat) (x : List Int) (hk : xs[k]? = some x) (hx : x.length ≤ 1099511627776) :
    Calls Try.prog 89 #[.pointer (some ⟨g, 0, none⟩), .int .i64 ((k : Int) + 1)] w fun e w' => Ext w w' ∧ ∃ A' c', e = .returned (.tuple #[.slice A' x.length c', .bool true]) ∧ New w w' 5 1 A' x.length c' (nums .u8 x) ∧ ∀ y ∈ x, (Lit.int .u8 y).wf = true := by
  obtain ⟨A, m, c, h⟩ := h
  obtain rfl := h.rows.len
  have hkl := (List.getElem?_eq_some_iff.1 hk).1
  obtain ⟨vs, ho, hrep⟩ := h.rows
  have hroom := own_room ho
  obtain ⟨v, hv, hb⟩ := hrep.at_ hk
  obtain ⟨B, l, d, rfl, _⟩ := id hb
  obtain ⟨ad, rfl, hc⟩ := own_cell ho hv
  have hr := hb.rd
  obtain rfl := hr.len
  have q1 := h.flds.2.1 _ (Ext.refl w)
  have hi : (k : Int) + 1 - 1 = k := by omega
  have h0 : (0 : Int) ≤ k := by omega
  have h1 : (k : Int) < xs.length := by omega
  clear hv hk
  go_enter Try.func89, Try.ntmps89
  go_wp2_with fail
  refine (clone8 B x.length d x _ hr (by omega)).mono ?_
  rintro e w1 ⟨he1, A1, c1, rfl, ho1⟩
  go_wp2_with fail
  go_ret2
  exact ⟨he1, A1, c1, rfl, ho1, hr.wf⟩
set_option maxRecDepth 100000 in
theorem get_no (S : Nat → Prop) (g gt : Nat) (xs : List (List Int)) (n : Nat) (w : World) (h : Diary w S g gt xs n) (k : Int) (hk : k < 1 ∨ (xs.length : Int) < k) :
    Calls Try.prog 89 #[.pointer (some ⟨g, 0, none⟩), .int .i64 k] w fun e w' => e = .returned (.tuple #[.slice none 0 0, .bool false]) ∧ w = w' := by
  obtain ⟨A, m, c, h⟩ := h
  obtain rfl := h.rows.len
  have q1 := h.flds.2.1 _ (Ext.refl w)
  have hk : k < 1 ∨ (1 ≤ k ∧ (xs.length : Int) < k) := by omega
  rcases hk with hk | ⟨hk0, hk⟩
  all_goals
    go_enter Try.func89, Try.ntmps89
    go_wp2_with fail
    go_ret2
    exact ⟨rfl, rfl⟩
end Go.Proofs.Ytipmkddcdnbihaa.Diary
namespace Go.Proofs.Ytipmkddcdnbihaa.DiaryAwake
open Go.RowKit Base Step Vec Diary
open DiaryP (records frame)
theorem rec0 : records [] = ([], 0) := by decide +kernel
theorem torn1 : TapeP.kept 3 21 = 3 := by decide
theorem rec1 : records (TapeP.crash (([] ++ frame 1 [97]) ++ frame 2 [98]) 21 3 0) = ([[97]], 21) := by decide +kernel
theorem lit8 (w : World) (b : Int) (e : TypeId) (f : Nat × Nat) (h0 : 0 ≤ b) (h1 : b < 256) : Rd (w.alloc (.cells #[.int .u8 b] e f)) .u8 (some ⟨w.heap.size, 0, none⟩) 1 [b] :=
  rd_new w .u8 [b] #[.int .u8 b] e f rfl (by simp) (by intro x hx; rw [List.mem_singleton.1 hx]; exact u8_wf h0 h1)
theorem off_new {w : World} {S : Nat → Prop} (h : ∀ i, S i → i < w.heap.size) (n : Nat) : Off S (some ⟨w.heap.size, 0, none⟩) n := fun _ ad ha hs => by
  cases ha
  have h2 : w.heap.size < w.heap.size := h _ hs
  omega
end Go.Proofs.Ytipmkddcdnbihaa.DiaryAwake
