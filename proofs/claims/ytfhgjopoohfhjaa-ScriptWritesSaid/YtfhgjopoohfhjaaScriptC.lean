/- The script's functions, walked: a line cut at its first blank; digits; kinds. -/
import Derived.Test.YtfhgjopoohfhjaaScriptA
import Derived.Test.YtfhgjopoohfhjaaScriptB
import Derived.Test.YtfhgjopoohfhjaaShelf
import Derived.Deep.QuietTactic
import Derived.BigQuiet
namespace Go.Proofs.Ytfhgjopoohfhjaa.Script
open Go.RowKit Base Step Vec
open ScriptP (L nm nameI kindOf Kind form formI digits digitsI numP numR chr cut)
/-! ### A cut at the first blank -/
theorem cut_index : ∀ (l : L), (Lib.indexByte l 32 = -1 ∧ cut l = (l, [], false)) ∨ (∃ i : Nat, Lib.indexByte l 32 = i ∧ i < l.length ∧ cut l = (l.take i, l.drop (i + 1), true))
  | [] => .inl ⟨rfl, rfl⟩
  | c :: cs => by
    by_cases h : c = 32
    · subst h
      exact .inr ⟨0, by simp [Lib.indexByte], by simp, by simp [cut]⟩
    · have hb : (c == 32) = false := by simp [h]
      rcases cut_index cs with ⟨h1, h2⟩ | ⟨i, h1, h2, h3⟩
      · left
        refine ⟨by simp [Lib.indexByte, hb, h1], ?_⟩
        simp only [cut, if_neg h, h2]
      · right
        refine ⟨i + 1, ?_, by simp; omega, ?_⟩
        · have : ((i : Int) == -1) = false := by rw [beq_eq_false_iff_ne]; omega
          simp [Lib.indexByte, hb, h1, this]
        · simp only [cut, if_neg h, h3, List.take_succ_cons, List.drop_succ_cons]
set_option maxRecDepth 100000 in
set_option maxHeartbeats 4000000 in
theorem index1_calls (s : ByteArray) (w : World) : Calls Try.prog 200 #[.string s, .string ⟨#[32]⟩] w fun e w' => e = .returned (.int .i64 (Lib.indexByte s.data.toList 32)) ∧ w = w' := by
  go_enter Try.func200, Try.ntmps200
  go_wp2_with fail
  · have h : ([32] == s.toList) = true := by assumption
    have h2 : s.data.toList = [32] := by
      rw [beq_iff_eq, ByteArray.toList_eq] at h
      exact h.symm
    go_ret
    exact ⟨by rw [h2]; rfl, rfl⟩
  · refine (Shelf.stringslite_IndexByte s _ _).mono ?_
    rintro e w' ⟨rfl, rfl⟩
    go_wp2_with fail
    go_ret
    exact ⟨rfl, rfl⟩
theorem ext_S (l : L) (a b : Nat) : (S l).extract a b = S ((l.drop a).take (b - a)) := by
  apply ByteArray.ext
  apply Array.ext'
  rw [Lib.extract_data]
theorem ext_eq (s : ByteArray) (a b : Nat) : s.extract a b = S ((s.data.toList.drop a).take (b - a)) := by
  apply ByteArray.ext
  apply Array.ext'
  rw [Lib.extract_data]
theorem S_eq (s : ByteArray) : s = S s.data.toList := by
  apply ByteArray.ext
  apply Array.ext'
  rfl
set_option maxRecDepth 100000 in
set_option maxHeartbeats 4000000 in
theorem cut1_calls (s : ByteArray) (w : World) (hs : s.size ≤ 140737488355328) : Calls Try.prog 156 #[.string s, .string ⟨#[32]⟩] w fun e w' => e = .returned (.tuple #[.string (S (cut s.data.toList).1), .string (S (cut s.data.toList).2.1), .bool (cut s.data.toList).2.2]) ∧ Ext w w' := by
  have hl : s.data.toList.length = s.size := by simp
  rcases cut_index s.data.toList with ⟨h1, h2⟩ | ⟨i, h1, h2, h3⟩
  · have H1 := Lib.hid h1
    have H2 := Lib.hid h2
    clear h1 h2
    go_enter Try.func156, Try.ntmps156
    go_wp2_with fail
    refine (index1_calls s _).mono ?_
    rintro e w' ⟨rfl, rfl⟩
    rw [H1.out]
    go_wp2_with fail
    go_ret3
    exact ⟨by rw [H2.out, ← S_eq]; rfl, Ext.refl _⟩
  · have H1 := Lib.hid h1
    have H3 := Lib.hid h3
    have i0 : (i : Int) < s.size := by omega
    have i1 : (0 : Int) ≤ i := by omega
    have i2 : (i : Int) + 1 ≤ s.size := by omega
    clear h1 h3
    go_enter Try.func156, Try.ntmps156
    go_wp2_with fail
    refine (index1_calls s _).mono ?_
    rintro e w' ⟨rfl, rfl⟩
    rw [H1.out]
    go_wp2_with fail
    have i3 : (i : Int).toNat = i := by omega
    have i4 : ((i : Int) + 1).toNat = i + 1 := by omega
    have i5 : IntKind.i64.wrap ((i : Int) + 1) = i + 1 := IntWalk.i64_in _ (by omega)
    have i6 : i ≤ s.size := by omega
    have i7 : i + 1 ≤ s.size := by omega
    go_quiet (fail)
    go_wp2_with fail
    go_ret3
    refine ⟨?_, (Ext.refl _).drewN _⟩
    rw [H3.out, ext_eq, ext_eq, List.drop_zero, Nat.sub_zero, List.take_of_length_le (l := s.data.toList.drop (i + 1)) (by rw [List.length_drop, hl]; exact Nat.le_refl _)]
    rfl
set_option maxRecDepth 100000 in
set_option maxHeartbeats 4000000 in
theorem cut_calls (s : ByteArray) (w : World) (hs : s.size ≤ 140737488355328) : Calls Try.prog 105 #[.string s, .string ⟨#[32]⟩] w fun e w' => e = .returned (.tuple #[.string (S (cut s.data.toList).1), .string (S (cut s.data.toList).2.1), .bool (cut s.data.toList).2.2]) ∧ Ext w w' := by
  go_enter Try.func105, Try.ntmps105
  go_wp2_with fail
  refine (cut1_calls s _ hs).mono ?_
  rintro e w' ⟨rfl, he⟩
  go_wp2_with fail
  go_ret3
  exact ⟨rfl, he⟩
/-! ### Kinds -/
set_option maxRecDepth 100000 in
set_option maxHeartbeats 4000000 in
theorem kindOf_calls (s : ByteArray) (w : World) : Calls Try.prog 106 #[.string s] w fun e w' => e = .returned (.int .i64 (kindOf s.data.toList : Nat)) ∧ Ext w w' := by
  go_enter Try.func106, Try.ntmps106
  go_wp2_with fail
  go_loopw [3] (fun k wr => ∃ j : Nat, k = .int .i64 j ∧ 1 ≤ j ∧ j ≤ 18 ∧ Hid (∀ i, 1 ≤ i → i < j → nm i ≠ s.data.toList) ∧ Ext w wr) (fun k _ => 18 - (intOf k).toNat)
  case atStart => exact ⟨1, rfl, by omega, by omega, Lib.hid fun i h1 h2 => by omega, Ext.refl _⟩
  case round =>
    obtain ⟨j, rfl, hj1, hj2, HR, he⟩ := hrel
    by_cases hlt : j ≤ 17
    · have HN : Hid (nameI (j : Int) = nm j) := Lib.hid (by unfold nameI; rw [if_pos ⟨by omega, by omega⟩]; rfl)
      go_wp2_with fail
      refine (name_calls (j : Int) _).mono ?_
      rintro e w1 ⟨rfl, he1⟩
      rw [HN.out]
      generalize hnm : nm j = v
      have HV := Lib.hid hnm
      clear hnm
      go_wp2_with fail
      · have hv : (v == s.toList) = true := by assumption
        rw [beq_iff_eq, ByteArray.toList_eq] at hv
        have hk : j = kindOf s.data.toList := ScriptP.kind_unique (.inl ⟨hj1, hlt, HV.out.trans hv⟩)
        have HK := Lib.hid hk
        clear hk hv
        go_ret
        exact ⟨by rw [← HK.out]; rfl, he.trans he1⟩
      · have hv : (v == s.toList) = false := by assumption
        rw [beq_eq_false_iff_ne, ByteArray.toList_eq] at hv
        have hR : Hid (∀ i, 1 ≤ i → i < j + 1 → nm i ≠ s.data.toList) := Lib.hid fun i h1 h2 => by
          rcases Nat.lt_or_ge i j with h3 | h3
          · exact HR.out i h1 h3
          · obtain rfl : i = j := by omega
            rw [HV.out]
            exact hv
        have hE := he.trans he1
        go_roundw
        case rel => exact ⟨j + 1, by go_num, by omega, by omega, hR, hE⟩
        case measure => simp [intOf]; omega
    · obtain rfl : j = 18 := by omega
      have hk : (0 : Nat) = kindOf s.data.toList := ScriptP.kind_unique (.inr ⟨rfl, fun i h1 h2 => HR.out i h1 (by omega)⟩)
      have HK := Lib.hid hk
      clear hk
      go_wp2_with fail
      go_ret
      exact ⟨by rw [← HK.out]; rfl, he⟩
/-! ### Digits -/
def ints (l : L) : List Int := l.map fun c => (c.toNat : Int)
theorem ints_wf (l : L) : ∀ x ∈ ints l, (Lit.int .u8 x).wf = true := by
  intro x hx
  obtain ⟨c, _, rfl⟩ := List.mem_map.1 hx
  have := c.toNat_lt
  exact u8_wf (by omega) (by omega)
theorem str_ints (l : L) : strOfNums (ints l) = S l := by
  unfold strOfNums S ints
  rw [List.map_map]
  congr 1
  congr 1
  conv => rhs; rw [← List.map_id l]
  apply List.map_congr_left
  intro c _
  simp
theorem chr_nat {d : Nat} (h : d < 10) : ((chr d).toNat : Int) = 48 + d := by
  unfold chr
  rw [UInt8.toNat_ofNat']
  omega
theorem digits_pow : ∀ (k n : Nat), n < 10 ^ (k + 1) → (digits n).length ≤ k + 1
  | 0, n, h => by rw [ScriptP.digits_small (by omega)]; simp
  | k + 1, n, h => by
    by_cases h10 : n < 10
    · rw [ScriptP.digits_small h10]; simp
    · rw [ScriptP.digits, if_neg h10, List.length_append]
      have : n / 10 < 10 ^ (k + 1) := by rw [Nat.div_lt_iff_lt_mul (by omega), ← Nat.pow_succ]; exact h
      have := digits_pow k _ this
      simp
      omega
theorem digits_short {n : Nat} (h : n ≤ 9223372036854775807) : (digits n).length ≤ 19 := by
  refine digits_pow 18 n ?_
  have : (10 : Nat) ^ 19 = 10000000000000000000 := by decide
  rw [this]
  omega
set_option maxRecDepth 100000 in
set_option maxHeartbeats 4000000 in
theorem digits_calls (n : Int) (w : World) (h0 : -9223372036854775808 ≤ n) (h1 : n ≤ 9223372036854775807) : Calls Try.prog 28 #[.int .i64 n] w fun e w' => e = .returned (.string (S (digitsI n))) ∧ Ext w w' := by
  by_cases hn : n < 0
  · have HF : Hid (digitsI n = []) := Lib.hid (by unfold digitsI; rw [if_pos hn])
    go_enter Try.func28, Try.ntmps28
    go_wp2_with fail
    go_ret
    exact ⟨by rw [HF.out]; rfl, Ext.refl _⟩
  · obtain ⟨N, rfl⟩ := Int.eq_ofNat_of_zero_le (Int.not_lt.1 hn)
    have HF : Hid (digitsI (N : Int) = digits N) := Lib.hid (by unfold digitsI; rw [if_neg hn]; rfl)
    have HL := digits_short (n := N) (by omega)
    have hn0 : (0 : Int) ≤ N := by omega
    clear hn h0
    go_enter Try.func28, Try.ntmps28
    go_wp2_with fail
    go_loopw [0, 3] (fun nv bv wr => ∃ (m : Nat) (A : Option Addr) (k c : Nat) (l : L), nv = .int .i64 m ∧ bv = .slice A k c ∧ New w wr 5 1 A k c (nums .u8 (ints l)) ∧ m ≤ 9223372036854775807 ∧ Hid (digits N = digits m ++ l) ∧ Ext w wr) (fun nv _ _ => (intOf nv).toNat + 1)
    case atStart => exact ⟨N, none, 0, 0, [], rfl, rfl, Own.nil _ _ _ _, by omega, Lib.hid (by simp), Ext.refl _⟩
    case round =>
      obtain ⟨m, A, k, c, l, rfl, rfl, hb, hm, HR, he⟩ := hrel
      have hlen : l.length = k := by have := hb.row.1; simpa [nums, ints] using this
      have hk : k ≤ 19 := by have := congrArg List.length HR.out; rw [List.length_append] at this; omega
      have hm0 : (0 : Int) ≤ m := by omega
      have hown : Own (wr.alloc (.cells #[.int .u8 (48 + (m : Int) % 10)] 5)) (fun i => w.heap.size ≤ i) 5 1 (.slice (some ⟨wr.heap.size, 0, none⟩) 1 1) 1 (nums .u8 [48 + (m : Int) % 10]) := ⟨World.ownsRow_lit wr _ 1 (Nat.zero_le _) (by decide) rfl, fun i hi => by simp [Value.ownBlock] at hi; rw [← hi]; exact he.size⟩
      have hrd := (hb.rd (ints_wf l)).ext (Ext.new wr (.cells #[.int .u8 (48 + (m : Int) % 10)] 5))
      have hE := he.alloc (.cells #[.int .u8 (48 + (m : Int) % 10)] 5)
      have HLEN := Lib.hid hlen
      clear hlen hb
      go_wp2_with (at_builtin; refine wpList_more w _ rfl _ _ _ rfl 5 .u8 1 Try.underlying22 Pack.info_u8 (by decide) _ 1 [48 + (m : Int) % 10] rfl hown hE A k c (ints l) rfl hrd ?c2 ?_)
      case c2 => omega
      intro A2 c2 w2 ho2 he2
      have hints : (48 + (m : Int) % 10) :: ints l = ints (chr (m % 10) :: l) := by
        simp only [ints, List.map_cons]
        rw [chr_nat (by omega)]
        congr 1
      rw [hints] at ho2
      clear hints hown hrd hE
      by_cases hlast : m < 10
      · have q0 : (m : Int) / 10 = 0 := by omega
        have HD : Hid (digits N = chr (m % 10) :: l) := Lib.hid (by rw [HR.out, ScriptP.digits_small hlast, show m % 10 = m by omega]; rfl)
        have hs := run_string (P := Try.prog) 22 9 5 c2 Try.underlying22 Try.underlying5 Try.underlying9 (ho2.rd (ints_wf _))
        rw [str_ints] at hs
        go_wp2_with fail
        go_ret
        exact ⟨by rw [HF.out, HD.out]; rfl, he2⟩
      · have q0 : ((m : Int) / 10 == 0) = false := by simp; omega
        have HD : Hid (digits N = digits (m / 10) ++ (chr (m % 10) :: l)) := Lib.hid (by
          rw [HR.out]
          conv => lhs; rw [ScriptP.digits, if_neg hlast]
          simp)
        go_wp2_with fail
        go_roundw
        case rel => exact ⟨m / 10, A2, 1 + k, c2, _, by congr, rfl, ho2, by omega, HD, he2⟩
        case measure => simp [intOf]; omega
theorem S_app (a b : L) : S a ++ S b = S (a ++ b) := by
  apply ByteArray.ext
  simp
set_option maxRecDepth 100000 in
set_option maxHeartbeats 4000000 in
theorem rdigits_nat : ∀ (f N : Nat) (w : World), N < f → N ≤ 9223372036854775807 → Calls Try.prog 29 #[.int .i64 N] w fun e w' => e = .returned (.string (S (digits N))) ∧ Ext w w' := by
  intro f
  induction f with
  | zero => intro N w h _; omega
  | succ f ih =>
    intro N w h hN
    have hn0 : (0 : Int) ≤ N := by omega
    by_cases h10 : N < 10
    · have HD : Hid (digits N = [chr N]) := Lib.hid (ScriptP.digits_small h10)
      have hs := run_string (P := Try.prog) 22 9 5 1 Try.underlying22 Try.underlying5 Try.underlying9 (rd_new w .u8 (ints [chr N]) #[.int .u8 (48 + N)] 5 (0, 0) (by simp [ints, nums, chr_nat h10]) (by simp [ints]) (ints_wf _))
      rw [str_ints] at hs
      simp only [ints, List.map_cons, List.map_nil, List.length_cons, List.length_nil] at hs
      go_enter Try.func29, Try.ntmps29
      go_wp2_with fail
      go_ret
      exact ⟨by rw [HD.out]; rfl, Ext.new _ _⟩
    · have h10' : ¬ (N : Int) < 10 := by omega
      have HD : Hid (digits N = digits (N / 10) ++ digits (N % 10)) := Lib.hid (by
        conv => lhs; rw [ScriptP.digits, if_neg h10]
        rw [ScriptP.digits_small (n := N % 10) (by omega)])
      go_enter Try.func29, Try.ntmps29
      go_wp2_with fail
      rw [show (N : Int) / 10 = ((N / 10 : Nat) : Int) by omega]
      refine (ih (N / 10) _ (by omega) (by omega)).mono ?_
      rintro e w1 ⟨rfl, he1⟩
      generalize hx : digits (N / 10) = x
      have HX := Lib.hid hx
      clear hx
      go_wp2_with fail
      rw [show (N : Int) % 10 = ((N % 10 : Nat) : Int) by omega]
      refine (ih (N % 10) _ (by omega) (by omega)).mono ?_
      rintro e w2 ⟨rfl, he2⟩
      generalize hy : digits (N % 10) = y
      have HY := Lib.hid hy
      have lx : x.length ≤ 19 := by rw [← HX.out]; exact digits_short (by omega)
      have ly : y.length ≤ 19 := by rw [← hy]; exact digits_short (by omega)
      clear hy
      go_wp2_with fail
      go_ret
      exact ⟨by rw [HD.out, HX.out, HY.out, ← S_app]; rfl, he1.trans he2⟩
theorem rdigits_calls (n : Int) (w : World) (h1 : n ≤ 9223372036854775807) : Calls Try.prog 29 #[.int .i64 n] w fun e w' => e = .returned (.string (S (digitsI n))) ∧ Ext w w' := by
  by_cases hn : n < 0
  · have HF : Hid (digitsI n = []) := Lib.hid (by unfold digitsI; rw [if_pos hn])
    go_enter Try.func29, Try.ntmps29
    go_wp2_with fail
    go_ret
    exact ⟨by rw [HF.out]; rfl, Ext.refl _⟩
  · obtain ⟨N, rfl⟩ := Int.eq_ofNat_of_zero_le (Int.not_lt.1 hn)
    rw [ScriptP.digitsI_nat]
    exact rdigits_nat (N + 1) N w (by omega) (by omega)
end Go.Proofs.Ytfhgjopoohfhjaa.Script
