import Derived.Test.YtipmkddcdnbihaaPack
namespace Go.Proofs.Ytipmkddcdnbihaa.Ref01
open Go.RowKit Base

theorem info_rows : (Try.prog.info? 55).map (fun i => (i.zero, i.size, i.bytes)) = some (some (.slice none 0 0), 1, 24) := by kernel_rfl

set_option maxHeartbeats 400000 in
set_option maxRecDepth 100000 in
theorem num_calls (n : Int) (size : Int) (w : World) (h0 : 0 ≤ size) (h8 : size ≤ 8) (hn0 : 0 ≤ n) (hn1 : n < 18446744073709551616) :
    Calls Try.prog 102 #[.int .u64 n, .int .i64 size] w fun e w' => ∃ A c, e = .returned (.slice A size.toNat c) ∧ Own w' (fun i => w.heap.size ≤ i) 5 1 (.slice A size.toNat c) size.toNat (nums .u8 (Le.le size.toNat n)) ∧ Below w.heap.size w w' := by
  obtain ⟨m, rfl⟩ := Int.eq_ofNat_of_zero_le h0
  rw [Int.toNat_natCast]
  go_enter Try.func102, Try.ntmps102
  go_wp2
  go_loopw [0, 5, 6] (fun q v i wr => ∃ (k : Nat) (A : Option Addr) (c : Nat), k ≤ m ∧ i = .int .i64 k ∧ q = .int .u64 (n / 256 ^ k) ∧ v = .slice A k c ∧ Hid (Own wr (fun i => w.heap.size ≤ i) 5 1 (.slice A k c) k (nums .u8 (Le.le k n))) ∧ Hid (Below w.heap.size w wr)) (fun _ _ i _ => m - (intOf i).toNat)
  case atStart => exact ⟨0, none, 0, Nat.zero_le _, rfl, by simp, rfl, Lib.hid (Own.nil _ _ _ _), Lib.hid (Below.refl _ _)⟩
  case round =>
    obtain ⟨k, A1, c1, hk, rfl, rfl, rfl, HV, HB⟩ := hrel
    have hq0 : 0 ≤ n / 256 ^ k := Int.ediv_nonneg hn0 (Int.pow_nonneg (by omega))
    have hq1 : n / 256 ^ k < 18446744073709551616 := Int.lt_of_le_of_lt (Int.ediv_le_self _ hn0) hn1
    by_cases hlt : k < m
    · go_wp2_with (at_builtin; refine wpList_app1 _ rfl (.tmp 16) (.tmp 20) 55 rfl (fun i => w.heap.size ≤ i) 5 .u8 1 Try.underlying55 Pack.info_u8 (by decide) (.slice A1 k c1) _ (Le.le k n) rfl HV.out _ rfl ?c1 ?c2 ?c3 ?_)
      case c1 => exact u8_wf (by omega) (by omega)
      case c2 => omega
      case c3 => exact fun i hi => Nat.le_trans HB.out.size hi
      intro A2 c2 w2 ho2 hc2
      rw [← Le.le_snoc] at ho2
      have HO2 := Lib.hid ho2
      have HB2 := Lib.hid ((Below.chg HB.out).step hc2 fun i _ h => HV.out.foot i h).below
      have hd1 : n / 256 ^ k / 256 = n / 256 ^ (k + 1) := by rw [Int.ediv_ediv_of_nonneg (Int.pow_nonneg (by omega)), Int.pow_succ]
      have HD1 := Lib.hid hd1
      clear hd1 ho2 hc2
      go_wp2
      go_roundw
      case rel => exact ⟨k + 1, A2, c2, by omega, by go_num, by rw [HD1.out], rfl, HO2, HB2⟩
      case measure => simp [intOf]; omega
    · obtain rfl : k = m := by omega
      go_wp2
      go_ret
      exact ⟨A1, c1, rfl, HV.out, HB.out⟩

/-- A slice of slices of bytes that reads so. -/
structure RdRows (w : World) (A : Option Addr) (n : Nat) (rows : List (Option Addr × Nat × Nat × List Int)) : Prop where
  len : rows.length = n
  cell : 0 < n → ∃ ad, A = some ad ∧ ∀ j r, rows[j]? = some r → w.cell? (ad.add j) = some (.slice r.1 r.2.1 r.2.2.1) ∧ Rd w .u8 r.1 r.2.1 r.2.2.2
def flat (rows : List (Option Addr × Nat × Nat × List Int)) : List Int := (rows.map fun r => r.2.2.2).flatten
theorem flat_append (a b : List (Option Addr × Nat × Nat × List Int)) : flat (a ++ b) = flat a ++ flat b := by simp [flat]
theorem flat_le (k : Nat) (a : List (Option Addr × Nat × Nat × List Int)) : (flat (a.take k)).length ≤ (flat a).length := by
  have h := congrArg (fun l => (flat l).length) (List.take_append_drop k a)
  simp only [flat_append, List.length_append] at h
  omega
theorem RdRows.below {w w' : World} {A : Option Addr} {n : Nat} {rows : List (Option Addr × Nat × Nat × List Int)} (h : RdRows w A n rows) (hb : Below w.heap.size w w') : RdRows w' A n rows :=
  ⟨h.len, fun h0 => by
    obtain ⟨ad, e, hc⟩ := h.cell h0
    refine ⟨ad, e, fun j r hr => ?_⟩
    obtain ⟨h1, h2⟩ := hc j r hr
    exact ⟨by rw [hb.cell (World.block_lt_of_cell? w _ h1)]; exact h1, h2.below hb⟩⟩
theorem flat_wf {w : World} {A : Option Addr} {n : Nat} {rows : List (Option Addr × Nat × Nat × List Int)} (h : RdRows w A n rows) : ∀ x ∈ flat rows, (Lit.int .u8 x).wf = true := by
  intro x hx
  simp only [flat, List.mem_flatten, List.mem_map] at hx
  obtain ⟨l, ⟨r, hr, rfl⟩, hx⟩ := hx
  obtain ⟨j, hj, rfl⟩ := List.mem_iff_getElem.1 hr
  obtain ⟨ad, e, hc⟩ := h.cell (by have := h.len; omega)
  exact (hc j _ (List.getElem?_eq_getElem hj)).2.wf x hx

theorem rdrows_new (w : World) (e : TypeId) (rows : List (Option Addr × Nat × Nat × List Int)) (C : Array Value) (hC : C.toList = rows.map fun r => .slice r.1 r.2.1 r.2.2.1) (h : ∀ r ∈ rows, Rd w .u8 r.1 r.2.1 r.2.2.2) : RdRows (w.alloc (.cells C e)) (some ⟨w.heap.size, 0, none⟩) rows.length rows :=
  ⟨rfl, fun _ => ⟨_, rfl, fun j r hr => ⟨World.news_of_block (at_new w _) j _ (by rw [hC]; simp [hr]), (h r (List.mem_of_getElem? hr)).below (below_new w _)⟩⟩⟩

set_option maxHeartbeats 400000 in
set_option maxRecDepth 100000 in
theorem join_calls (A : Option Addr) (n c : Nat) (rows : List (Option Addr × Nat × Nat × List Int)) (w : World) (hr : RdRows w A n rows) (hn : n ≤ 1099511627776) (hl : (flat rows).length ≤ 1099511627776) :
    Calls Try.prog 103 #[.slice A n c] w fun e w' => ∃ A' c', e = .returned (.slice A' (flat rows).length c') ∧ Own w' (fun i => w.heap.size ≤ i) 5 1 (.slice A' (flat rows).length c') (flat rows).length (nums .u8 (flat rows)) ∧ Below w.heap.size w w' := by
  have HR := Lib.hid hr
  have HL := Lib.hid hl
  clear hr hl
  go_enter Try.func103, Try.ntmps103
  go_wp2
  go_loopw [3, 4] (fun v i wr => ∃ (k m : Nat) (A' : Option Addr) (c' : Nat), k ≤ n ∧ i = .int .i64 k ∧ v = .slice A' m c' ∧ Hid (m = (flat (rows.take k)).length) ∧ Hid (Own wr (fun i => w.heap.size ≤ i) 5 1 (.slice A' m c') m (nums .u8 (flat (rows.take k)))) ∧ Hid (Below w.heap.size w wr)) (fun _ i _ => n - (intOf i).toNat)
  case atStart => exact ⟨0, 0, none, 0, Nat.zero_le _, rfl, rfl, Lib.hid rfl, Lib.hid (Own.nil _ _ _ _), Lib.hid (Below.refl _ _)⟩
  case round =>
    obtain ⟨k, m, A1, c1, hk, rfl, rfl, HM, HV, HB⟩ := hrel
    by_cases hlt : k < n
    · have hkl : k < rows.length := by rw [HR.out.len]; exact hlt
      obtain ⟨r, hrk⟩ : ∃ r, rows[k]? = some r := ⟨_, List.getElem?_eq_getElem hkl⟩
      have hrr := HR.out.below HB.out
      obtain ⟨ad, rfl, hcc⟩ := hrr.cell (by omega)
      obtain ⟨hcell, hrd⟩ := hcc k r hrk
      obtain ⟨B, nb, cb, ys⟩ := r
      have hfs : flat (rows.take (k + 1)) = flat (rows.take k) ++ ys := by
        rw [List.take_add_one, hrk]
        simp [flat]
      have hpre : (flat (rows.take (k + 1))).length ≤ (flat rows).length := flat_le _ _
      have hlen2 : m + nb ≤ 1099511627776 := by
        have h1 := HL.out
        rw [hfs, List.length_append] at hpre
        have h2 := HM.out
        have h3 : ys.length = nb := hrd.len
        omega
      have HFS := Lib.hid hfs
      have HRD := Lib.hid hrd
      clear hrk hrr hcc hrd hfs hpre
      go_wp2_with (at_builtin; refine wpList_app _ rfl (.tmp 11) (.tmp 15) 55 rfl (fun i => w.heap.size ≤ i) 5 .u8 1 Try.underlying55 Pack.info_u8 (by decide) (.slice A1 m c1) _ (flat (rows.take k)) rfl HV.out B nb cb ys rfl HRD.out ?c2 ?c3 ?_)
      case c2 => omega
      case c3 => exact fun i hi => Nat.le_trans HB.out.size hi
      intro A2 c2 w2 ho2 hc2
      rw [← HFS.out] at ho2
      have HO2 := Lib.hid ho2
      have HB2 := Lib.hid ((Below.chg HB.out).step hc2 fun i _ h => HV.out.foot i h).below
      have hm2 : m + nb = (flat (rows.take (k + 1))).length := by rw [HFS.out, List.length_append, ← HM.out, HRD.out.len]
      have HM2 := Lib.hid hm2
      clear ho2 hc2 hm2
      go_wp2
      go_roundw
      case rel => exact ⟨k + 1, m + nb, A2, c2, by omega, by go_num, rfl, HM2, HO2, HB2⟩
      case measure => simp [intOf]; omega
    · obtain rfl : k = n := by omega
      have ht : rows.take k = rows := List.take_of_length_le (by rw [HR.out.len]; omega)
      have hm := HM.out
      have hv := HV.out
      rw [ht] at hm hv
      subst hm
      have HV2 := Lib.hid hv
      clear ht hv HM HV
      go_wp2
      go_ret
      exact ⟨A1, c1, rfl, HV2.out, HB.out⟩
set_option maxHeartbeats 400000 in
set_option maxRecDepth 100000 in
theorem of_calls (A : Option Addr) (n c : Nat) (xs : List Int) (w : World) (hr : Rd w .u8 A n xs) (h8 : n ≤ 8) :
    Calls Try.prog 234 #[.slice A n c] w fun e w' => e = .returned (.int .u64 (Le.of xs)) ∧ w = w' := by
  have HU : Hid (Le.U8s xs) := Lib.hid fun x hx => wf_u8 (hr.wf x hx)
  have HL := Lib.hid hr.len
  go_enter Try.func234, Try.ntmps234
  go_wp2
  go_loop [3, 4] (fun t i => ∃ k : Nat, k ≤ n ∧ i = .int .i64 ((k : Int) - 1) ∧ t = .int .u64 (Le.of (xs.drop k))) (fun _ i => (intOf i + 1).toNat)
  case atStart => exact ⟨n, Nat.le_refl _, rfl, by rw [List.drop_eq_nil_of_le (by rw [HL.out]; omega)]; rfl⟩
  case round =>
    obtain ⟨k, hk, rfl, rfl⟩ := hrel
    by_cases hlt : 0 < k
    · obtain ⟨m, rfl⟩ : ∃ m, k = m + 1 := ⟨k - 1, by omega⟩
      obtain ⟨ad, rfl, hcell⟩ := hr.at_ (j := m) (by omega)
      obtain ⟨hz0, hz1⟩ := wf_u8 (hr.wfAt (j := m) (by omega))
      have hb := Le.of_bound (xs.drop (m + 1)) fun x hx => HU.out x (List.mem_of_mem_drop hx)
      have hb2 : (256 : Int) ^ (xs.drop (m + 1)).length ≤ 256 ^ 7 := by
        have h1 : (256 : Nat) ^ (xs.drop (m + 1)).length ≤ 256 ^ 7 := Nat.pow_le_pow_right (by omega) (by simp [HL.out]; omega)
        have h2 : ((256 ^ (xs.drop (m + 1)).length : Nat) : Int) ≤ ((256 ^ 7 : Nat) : Int) := Int.ofNat_le.2 h1
        simpa using h2
      have hb3 : (256 : Int) ^ 7 = 72057594037927936 := by decide
      have hd : xs.drop m = xs.getD m 0 :: xs.drop (m + 1) := by
        rw [List.getD_eq_getElem?_getD, List.getElem?_eq_getElem (by rw [HL.out]; omega)]
        exact List.drop_eq_getElem_cons (by rw [HL.out]; omega)
      have HS : Hid (Le.of (xs.drop m) = Le.of (xs.drop (m + 1)) * 256 + xs.getD m 0) := Lib.hid (by rw [hd, Le.of]; omega)
      rw [hb3] at hb2
      have q0 := hb.1
      have q1 : Le.of (xs.drop (m + 1)) < 72057594037927936 := by omega
      clear hb hb2 hb3 hd
      generalize xs.getD m 0 = b at *
      generalize Le.of (xs.drop (m + 1)) = acc at *
      go_wp2
      go_round
      case rel => exact ⟨m, by omega, by go_num, by rw [HS.out]⟩
      case measure => simp [intOf]
    · obtain rfl : k = 0 := by omega
      go_wp2
      go_ret
      exact ⟨by simp, rfl⟩
end Go.Proofs.Ytipmkddcdnbihaa.Ref01
