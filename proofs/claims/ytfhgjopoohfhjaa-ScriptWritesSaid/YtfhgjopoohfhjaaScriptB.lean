/- The script's functions, walked: numbers, digits, kinds. -/
import Derived.Test.YtfhgjopoohfhjaaScriptP
import Derived.Test.YtfhgjopoohfhjaaVec
import Derived.Test.YtfhgjopoohfhjaaFill
import Derived.WalkSpells
import Derived.WalkLawsBesides
namespace Go.Proofs.Ytfhgjopoohfhjaa.Script
open Go.RowKit Base Step Vec
open ScriptP (L nm nameI kindOf Kind form formI digits digitsI numP numR chr)
/-! ### Numbers -/
theorem getD_byte {s : ByteArray} {i : Nat} (h : i < s.size) : s.data.toList.drop i = s[i] :: s.data.toList.drop (i + 1) := by
  have h' : i < s.data.toList.length := by simpa using h
  rw [List.drop_eq_getElem_cons h']
  rfl
theorem num_fail {z : Bool} {c : UInt8} {cs : L} {i n : Nat} (h : ¬ (48 ≤ c.toNat ∧ c.toNat ≤ 57) ∨ (i = 1 ∧ z = true) ∨ ScriptP.most < n * 10 + (c.toNat - 48)) : ScriptP.numFrom z (c :: cs) i n = none := by
  unfold ScriptP.numFrom
  rw [if_pos]
  rcases h with h | h
  · left
    cases hd : ScriptP.dig c with
    | false => rfl
    | true => exact absurd (ScriptP.dig_iff.1 hd) h
  · exact .inr h
theorem num_ok {z : Bool} {c : UInt8} {cs : L} {i n : Nat} (h1 : 48 ≤ c.toNat ∧ c.toNat ≤ 57) (h2 : ¬ (i = 1 ∧ z = true)) (h3 : n * 10 + (c.toNat - 48) ≤ ScriptP.most) : ScriptP.numFrom z (c :: cs) i n = ScriptP.numFrom z cs (i + 1) (n * 10 + (c.toNat - 48)) := by
  conv => lhs; unfold ScriptP.numFrom
  rw [if_neg]
  rintro (h | h | h)
  · rw [ScriptP.dig_iff.2 h1] at h; cases h
  · exact h2 h
  · omega
theorem numP_cons (s : ByteArray) (h : 0 < s.size) : numP s.data.toList = ScriptP.numFrom (ScriptP.zero0 s.data.toList) (s.data.toList.drop 0) 0 0 := by
  unfold numP
  rw [if_neg]
  · rfl
  · intro e
    have := congrArg List.length e
    simp at this
    rw [this] at h
    simp at h
theorem zero0_eq (s : ByteArray) (h : 0 < s.size) : (ScriptP.zero0 s.data.toList = true) ↔ (s[0] : UInt8).toNat = 48 := by
  have := getD_byte h
  rw [List.drop_zero] at this
  rw [this]
  simp [ScriptP.zero0]
set_option maxRecDepth 100000 in
set_option maxHeartbeats 4000000 in
theorem number_calls (s : ByteArray) (w : World) (hs : s.size ≤ 140737488355328) : Calls Try.prog 158 #[.string s, .int .i64 1073741824] w fun e w' => e = .returned (.tuple #[.int .i64 ((numP s.data.toList).getD 0 : Nat), .bool (numP s.data.toList).isSome]) ∧ w = w' := by
  rcases Nat.eq_zero_or_pos s.size with h0 | h0
  · have hn : numP s.data.toList = none := by
      unfold numP
      rw [if_pos]
      apply List.eq_nil_of_length_eq_zero
      simpa using h0
    have HN := Lib.hid hn
    clear hn
    go_enter Try.func158, Try.ntmps158
    go_wp2
    go_loop [6, 11] (fun n i => n = .int .i64 0 ∧ i = .int .i64 0) (fun _ _ => 0)
    case atStart => exact ⟨rfl, rfl⟩
    case round =>
      obtain ⟨rfl, rfl⟩ := hrel
      go_wp2
      go_ret2
      exact ⟨by rw [HN.out]; rfl, rfl⟩
  · have HP := Lib.hid (numP_cons s h0)
    have HZ := Lib.hid (zero0_eq s h0)
    have h00 : (0 : Int) < s.size := by omega
    go_enter Try.func158, Try.ntmps158
    go_wp2
    go_loop [6, 7, 8, 11] (fun n _ _ i => ∃ j m : Nat, i = .int .i64 j ∧ n = .int .i64 m ∧ j ≤ s.size ∧ m ≤ 1073741824 ∧ Hid (ScriptP.numFrom (ScriptP.zero0 s.data.toList) (s.data.toList.drop j) j m = numP s.data.toList)) (fun _ _ _ i => s.size - (intOf i).toNat)
    case atStart => exact ⟨0, 0, rfl, rfl, Nat.zero_le _, by omega, Lib.hid HP.out.symm⟩
    case round =>
      obtain ⟨j, m, rfl, rfl, hj, hm, HR⟩ := hrel
      by_cases hlt : j < s.size
      · have HD := Lib.hid (getD_byte hlt)
        have hb : (s[j].toNat : Int) < 256 := by have := s[j].toNat_lt; omega
        have hb0 : (0 : Int) ≤ s[j].toNat := by omega
        go_wp2
        all_goals
          try simp only [beq_iff_eq, beq_eq_false_iff_ne, ne_eq] at *
          first
            | (go_round
               case rel => exact ⟨j + 1, m * 10 + (s[j].toNat - 48), by first | go_num | (congr; omega), by congr; omega, by omega, by omega, Lib.hid (by
                 rw [← HR.out, HD.out, num_ok ⟨by omega, by omega⟩ (fun ⟨k1, k2⟩ => by have := HZ.out.1 k2; omega) (by unfold ScriptP.most; omega)])⟩
               case measure => simp [intOf]; omega)
            | (have hf : numP s.data.toList = none := by
                 rw [← HR.out, HD.out]
                 refine num_fail ?_
                 first
                   | (left; omega)
                   | (right; left; exact ⟨by omega, HZ.out.2 (by omega)⟩)
                   | (right; right; show 1073741824 < _; omega)
               go_ret2
               exact ⟨by rw [hf]; rfl, rfl⟩)
      · obtain rfl : j = s.size := by omega
        have hd : s.data.toList.drop s.size = [] := List.drop_eq_nil_of_le (by simp)
        have hr := HR.out
        rw [hd] at hr
        have HF : Hid (numP s.data.toList = some m) := Lib.hid hr.symm
        clear hr hd HR
        go_wp2
        go_ret2
        exact ⟨by rw [HF.out]; rfl, rfl⟩
/-- What the document's numbers come to: below 0, none. -/
def numI (l : L) : Int := match numR l with | some n => n | none => -1
theorem numI_eq (l : L) : numI l = match numR l with | some n => (n : Int) | none => -1 := rfl
def valTo (l : L) (j : Nat) : Nat := ScriptP.val (l.take j) 0
theorem val_snoc : ∀ (s : L) (c : UInt8) (n : Nat), ScriptP.val (s ++ [c]) n = ScriptP.val s n * 10 + (c.toNat - 48)
  | [], c, n => rfl
  | b :: s, c, n => by simp only [List.cons_append, ScriptP.val]; exact val_snoc s c _
theorem val_lt : ∀ (s : L) (n : Nat), s.all ScriptP.dig = true → ScriptP.val s n < (n + 1) * 10 ^ s.length
  | [], n, _ => by simp [ScriptP.val]
  | c :: s, n, h => by
    simp only [List.all_cons, Bool.and_eq_true] at h
    have h1 := ScriptP.dig_iff.1 h.1
    have h2 := val_lt s (n * 10 + (c.toNat - 48)) h.2
    simp only [ScriptP.val, List.length_cons]
    refine Nat.lt_of_lt_of_le h2 ?_
    rw [Nat.pow_succ, Nat.mul_comm (10 ^ s.length) 10, ← Nat.mul_assoc]
    exact Nat.mul_le_mul_right _ (by omega)
theorem take_byte {s : ByteArray} {i : Nat} (h : i < s.size) : s.data.toList.take (i + 1) = s.data.toList.take i ++ [s[i]] := by
  have h' : i < s.data.toList.length := by simpa using h
  rw [List.take_succ_eq_append_getElem h']
  rfl
set_option maxRecDepth 100000 in
set_option maxHeartbeats 4000000 in
theorem rnumber_calls (s : ByteArray) (w : World) (hs : s.size ≤ 140737488355328) : Calls Try.prog 159 #[.string s] w fun e w' => e = .returned (.int .i64 (numI s.data.toList)) ∧ w = w' := by
  have hlen : s.data.toList.length = s.size := by simp
  by_cases hbad : s.data.toList.length < 1 ∨ 10 < s.data.toList.length ∨ (1 < s.data.toList.length ∧ ScriptP.zero0 s.data.toList = true)
  · have HF : Hid (numI s.data.toList = -1) := Lib.hid (by unfold numI numR; rw [if_pos hbad])
    by_cases h1 : s.size < 1
    · clear hbad hlen
      go_enter Try.func159, Try.ntmps159
      go_wp2
      go_ret
      exact ⟨by rw [HF.out]; rfl, rfl⟩
    · by_cases h2 : 10 < s.size
      · clear hbad hlen
        go_enter Try.func159, Try.ntmps159
        go_wp2
        go_ret
        exact ⟨by rw [HF.out]; rfl, rfl⟩
      · have h3 : 1 < s.size ∧ ScriptP.zero0 s.data.toList = true := by
          rw [hlen] at hbad
          rcases hbad with h | h | h
          · omega
          · omega
          · exact h
        obtain ⟨h3, h4⟩ := h3
        have h00 : 0 < s.size := by omega
        have h5 : (s[0].toNat : Int) = 48 := by have := (zero0_eq s h00).1 h4; omega
        have h6 : ((s[0].toNat : Int) == 48) = true := by rw [h5]; rfl
        clear hbad hlen h4 h5
        go_enter Try.func159, Try.ntmps159
        go_wp2
        go_ret
        exact ⟨by rw [HF.out]; rfl, rfl⟩
  · have HB := Lib.hid hbad
    have h1 : 1 ≤ s.size := by rw [hlen] at hbad; omega
    have h2 : s.size ≤ 10 := by rw [hlen] at hbad; omega
    have h00 : 0 < s.size := by omega
    have HV : Hid (∀ j, j ≤ s.size → (∀ i (h : i < s.size), i < j → 48 ≤ s[i].toNat ∧ s[i].toNat ≤ 57) → valTo s.data.toList j < 10000000000) := Lib.hid fun j hj hd => by
      have hall : (s.data.toList.take j).all ScriptP.dig = true := by
        rw [List.all_eq_true]
        intro c hc
        obtain ⟨i, hi, rfl⟩ := List.getElem_of_mem hc
        have hi' : i < j := by rw [List.length_take] at hi; omega
        have := hd i (by omega) hi'
        rw [List.getElem_take]
        exact ScriptP.dig_iff.2 this
      have h3 := val_lt _ 0 hall
      have h4 : (s.data.toList.take j).length ≤ 10 := by rw [List.length_take]; omega
      have h5 : 10 ^ (s.data.toList.take j).length ≤ 10 ^ 10 := Nat.pow_le_pow_right (by omega) h4
      have h6 : (10 : Nat) ^ 10 = 10000000000 := by decide
      unfold valTo
      omega
    have HALL : Hid ((∀ i (h : i < s.size), 48 ≤ s[i].toNat ∧ s[i].toNat ≤ 57) → numI s.data.toList = if valTo s.data.toList s.size ≤ 1073741824 then (valTo s.data.toList s.size : Int) else -1) := Lib.hid fun hd => by
      have hall : s.data.toList.all ScriptP.dig = true := by
        rw [List.all_eq_true]
        intro c hc
        obtain ⟨i, hi, rfl⟩ := List.getElem_of_mem hc
        exact ScriptP.dig_iff.2 (hd i (by omega))
      have hv : valTo s.data.toList s.size = ScriptP.val s.data.toList 0 := by unfold valTo; rw [List.take_of_length_le (by omega)]
      unfold numI numR
      rw [if_neg hbad, hv]
      by_cases hm : ScriptP.val s.data.toList 0 ≤ 1073741824
      · rw [if_pos ⟨hall, hm⟩, if_pos hm]
      · rw [if_neg (fun h => hm h.2), if_neg hm]
    have HNO : Hid (∀ i (h : i < s.size), ¬ (48 ≤ s[i].toNat ∧ s[i].toNat ≤ 57) → numI s.data.toList = -1) := Lib.hid fun i hi hd => by
      unfold numI numR
      rw [if_neg hbad, if_neg]
      rintro ⟨h, _⟩
      rw [List.all_eq_true] at h
      exact hd (ScriptP.dig_iff.1 (h (s.data.toList[i]'(by omega)) (List.getElem_mem _)))
    have HZ : Hid (1 < s.size → ((s[0].toNat : Int) == 48) = false) := Lib.hid fun h => by
      have : ¬ ScriptP.zero0 s.data.toList = true := fun e => hbad (.inr (.inr ⟨by omega, e⟩))
      rw [zero0_eq s h00] at this
      simp
      omega
    clear hbad hlen
    by_cases h3 : 1 < s.size
    all_goals
      (try have h6 := HZ.out h3)
      go_enter Try.func159, Try.ntmps159
      go_wp2
      go_loop [3, 4] (fun n i => ∃ j : Nat, i = .int .i64 j ∧ n = .int .i64 (valTo s.data.toList j) ∧ j ≤ s.size ∧ valTo s.data.toList j < 10000000000 ∧ Hid (∀ i (h : i < s.size), i < j → 48 ≤ s[i].toNat ∧ s[i].toNat ≤ 57)) (fun _ i => s.size - (intOf i).toNat)
      case atStart => exact ⟨0, rfl, rfl, by omega, by simp [valTo, ScriptP.val], Lib.hid fun i _ h => by omega⟩
      case round =>
        obtain ⟨j, rfl, rfl, hj, hv, HR⟩ := hrel
        by_cases hlt : j < s.size
        · have hb : (s[j].toNat : Int) < 256 := by have := s[j].toNat_lt; omega
          have hb0 : (0 : Int) ≤ s[j].toNat := by omega
          have HS : Hid (valTo s.data.toList (j + 1) = valTo s.data.toList j * 10 + (s[j].toNat - 48)) := Lib.hid (by unfold valTo; rw [take_byte hlt, val_snoc])
          go_wp2
          all_goals
            first
              | (have hd : 48 ≤ s[j].toNat ∧ s[j].toNat ≤ 57 := by omega
                 have HR2 : Hid (∀ i (h : i < s.size), i < j + 1 → 48 ≤ s[i].toNat ∧ s[i].toNat ≤ 57) := Lib.hid fun i h hi => by
                   rcases Nat.lt_or_ge i j with h' | h'
                   · exact HR.out i h h'
                   · obtain rfl : i = j := by omega
                     exact hd
                 go_round
                 case rel => exact ⟨j + 1, by go_num, by rw [HS.out]; congr; omega, by omega, HV.out _ (by omega) HR2.out, HR2⟩
                 case measure => simp [intOf]; omega)
              | (have hf := HNO.out j hlt (by omega)
                 go_ret
                 exact ⟨by rw [hf]; rfl, rfl⟩)
        · obtain rfl : j = s.size := by omega
          have HF := Lib.hid (HALL.out fun i h => HR.out i h h)
          go_wp2
          all_goals
            go_ret
            refine ⟨?_, rfl⟩
            rw [HF.out]
            first
              | (rw [if_pos (by omega)]; rfl)
              | (rw [if_neg (by omega)]; rfl)
end Go.Proofs.Ytfhgjopoohfhjaa.Script
