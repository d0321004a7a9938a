/- Plain facts: whole numbers below 2 ^ 53 as words of double precision; what '+', '-', '*', '==', the conversions give on them. No program in sight. -/
import Derived.Laws.FloatArith
namespace Go.Proofs.Ytaohnialheccdaa.Float
open Ieee
/-- A word that stands for a whole number (a zero of either sign for nought). -/
def Is (b : Nat) (n : Int) : Prop := ∃ (s : Bool) (p : Nat), double.read b = .number s (n.natAbs * 2 ^ p) (-(p : Int)) ∧ (n < 0 → s = true) ∧ (0 < n → s = false)
theorem cut_none (s : Bool) (n : Nat) : Toward.even.cut s n 0 = n := by
  simp [Toward.cut, Nat.mod_one]
theorem log2_shift {N q : Nat} (h : N ≠ 0) : (N * 2 ^ q).log2 = N.log2 + q := by
  have h1 := Nat.log2_self_le h
  have h2 := (Nat.log2_lt h).1 (Nat.lt_succ_self _)
  have h3 : N * 2 ^ q ≠ 0 := by have := Nat.two_pow_pos q; exact Nat.mul_ne_zero h (by omega)
  rw [Nat.log2_eq_iff h3]
  constructor
  · rw [Nat.pow_add]; exact Nat.mul_le_mul_right _ h1
  · rw [show N.log2 + q + 1 = (N.log2 + 1) + q by omega, Nat.pow_add]
    exact Nat.mul_lt_mul_of_pos_right h2 (Nat.two_pow_pos q)
theorem cut_exact (s : Bool) (N q : Nat) (h : N ≠ 0) : Toward.even.cut s (N * 2 ^ q) q = N := by
  have h1 : min q ((N * 2 ^ q).log2 + 2) = q := by rw [log2_shift h]; omega
  have h2 := Nat.two_pow_pos q
  unfold Toward.cut
  rw [h1, Nat.one_shiftLeft]
  dsimp only
  rw [Nat.mul_div_cancel _ h2, Nat.mul_mod_left]
  have h3 : ¬ (2 ^ q < 2 * 0) := by omega
  have h4 : (2 ^ q == 2 * 0) = false := by simp
  rw [decide_eq_false h3, h4]
  simp
/-- What the word of a whole number reads as. -/
theorem read_near (s : Bool) (N p : Nat) (h0 : N ≠ 0) (h : N < 2 ^ 53) : ∃ q : Nat, double.read (double.nearest s (N * 2 ^ p) (-(p : Int))) = .number s (N * 2 ^ q) (-(q : Int)) := by
  have hl : N.log2 ≤ 52 := by have := (Nat.log2_lt h0).2 h; omega
  have hm : N * 2 ^ p ≠ 0 := by have := Nat.two_pow_pos p; exact Nat.mul_ne_zero h0 (by omega)
  have e1 : double.fractionBits = 52 := rfl
  have e2 : double.leastPlace = -1074 := by decide
  obtain ⟨q, hq⟩ : ∃ q : Nat, q + N.log2 = 52 := ⟨52 - N.log2, by omega⟩
  have elast : max (-(p : Int) + ((N * 2 ^ p).log2 : Nat) - (double.fractionBits : Nat)) double.leastPlace = -(q : Int) := by
    rw [log2_shift h0, e1, e2]
    omega
  have ekept : Toward.even.cut s ((N * 2 ^ p) <<< (-(p : Int) - -(q : Int)).toNat) (-(q : Int) - -(p : Int)).toNat = N * 2 ^ q := by
    by_cases hpq : p ≤ q
    · rw [show (-(q : Int) - -(p : Int)).toNat = 0 by omega, cut_none, show (-(p : Int) - -(q : Int)).toNat = q - p by omega, Nat.shiftLeft_eq, Nat.mul_assoc, ← Nat.pow_add, show p + (q - p) = q by omega]
    · have h3 : N * 2 ^ q ≠ 0 := by have := Nat.two_pow_pos q; exact Nat.mul_ne_zero h0 (by omega)
      rw [show (-(p : Int) - -(q : Int)).toNat = 0 by omega, show (-(q : Int) - -(p : Int)).toNat = p - q by omega, Nat.shiftLeft_zero, show p = q + (p - q) by omega, Nat.pow_add, ← Nat.mul_assoc, show q + (p - q) - q = p - q by omega]
      exact cut_exact s _ _ h3
  have hk1 : 2 ^ 52 ≤ N * 2 ^ q := by
    have := Nat.mul_le_mul_right (2 ^ q) (Nat.log2_self_le h0)
    rw [← Nat.pow_add, show N.log2 + q = 52 by omega] at this
    exact this
  have hk2 : N * 2 ^ q < 2 ^ 53 := by
    have := Nat.mul_lt_mul_of_pos_right ((Nat.log2_lt h0).1 (Nat.lt_succ_self _)) (Nat.two_pow_pos q)
    rw [← Nat.pow_add, show N.log2 + 1 + q = 53 by omega] at this
    exact this
  refine ⟨q, ?_⟩
  unfold Format.nearest
  rw [if_neg hm]
  dsimp only
  rw [elast, ekept]
  generalize N * 2 ^ q = K at *
  have eb : double.binade = 4503599627370496 := by decide
  have ei : double.infRung = 9218868437227405312 := by decide
  have ew : double.signWeight = 9223372036854775808 := by decide
  rw [e2, eb, ei]
  have hq52 : q ≤ 52 := by omega
  have hr : (-(q : Int) - -1074).toNat = 1074 - q := by omega
  rw [hr, Nat.min_eq_left (by omega)]
  unfold Format.read Format.word
  rw [ew, eb, ei, e2]
  have hR : (1074 - q) * 4503599627370496 + K < 9218868437227405312 := by omega
  have hR2 : 4503599627370496 ≤ (1074 - q) * 4503599627370496 + K := by omega
  have hd : ((1074 - q) * 4503599627370496 + K) / 4503599627370496 = 1074 - q + 1 := by omega
  have hmo : ((1074 - q) * 4503599627370496 + K) % 4503599627370496 = K - 4503599627370496 := by omega
  cases s
  · have w1 : (if false = true then 9223372036854775808 + ((1074 - q) * 4503599627370496 + K) else (1074 - q) * 4503599627370496 + K) = (1074 - q) * 4503599627370496 + K := rfl
    rw [w1]
    dsimp only
    rw [Nat.mod_eq_of_lt (show (1074 - q) * 4503599627370496 + K < 9223372036854775808 by omega), if_neg (by omega), if_pos hR, hd, hmo, Nat.div_eq_of_lt (by omega)]
    rw [show 4503599627370496 + (K - 4503599627370496) = K by omega, show (-1074 : Int) + ((1074 - q + 1 - 1 : Nat) : Int) = -(q : Int) by omega]
    simp
  · have w1 : (if true = true then 9223372036854775808 + ((1074 - q) * 4503599627370496 + K) else (1074 - q) * 4503599627370496 + K) = 9223372036854775808 + ((1074 - q) * 4503599627370496 + K) := rfl
    rw [w1]
    dsimp only
    rw [show (9223372036854775808 + ((1074 - q) * 4503599627370496 + K)) % 9223372036854775808 = (1074 - q) * 4503599627370496 + K by omega, if_neg (by omega), if_pos hR, hd, hmo, show (9223372036854775808 + ((1074 - q) * 4503599627370496 + K)) / 9223372036854775808 = 1 by omega]
    rw [show 4503599627370496 + (K - 4503599627370496) = K by omega, show (-1074 : Int) + ((1074 - q + 1 - 1 : Nat) : Int) = -(q : Int) by omega]
    simp
/-- A datum that stands for a whole number. -/
def DIs (d : Datum) (n : Int) : Prop := ∃ (s : Bool) (p : Nat), d = .number s (n.natAbs * 2 ^ p) (-(p : Int)) ∧ (n < 0 → s = true) ∧ (0 < n → s = false)
theorem write_is {d : Datum} {n : Int} (h : DIs d n) (hn : n.natAbs < 2 ^ 53) : Is (double.write d) n := by
  obtain ⟨s, p, rfl, h1, h2⟩ := h
  by_cases h0 : n = 0
  · subst h0
    obtain ⟨m, hm⟩ : ∃ m : Nat, m = 1074 := ⟨_, rfl⟩
    refine ⟨s, m, ?_, h1, h2⟩
    have e : double.write (.number s ((0 : Int).natAbs * 2 ^ p) (-(p : Int))) = double.word s 0 := by
      show double.nearest s ((0 : Int).natAbs * 2 ^ p) (-(p : Int)) = _
      unfold Format.nearest
      rw [if_pos (by simp)]
    have z : ∀ q : Nat, (0 : Int).natAbs * 2 ^ q = 0 := fun q => Nat.zero_mul _
    rw [e, z, hm]
    cases s <;> decide
  · obtain ⟨q, hq⟩ := read_near s n.natAbs p (by omega) hn
    exact ⟨s, q, hq, h1, h2⟩
theorem of_int (n : Int) (hn : n.natAbs < 2 ^ 53) : Is (floatOfInt .f64 n) n := by
  refine write_is (d := .number (n < 0) n.natAbs 0) ⟨decide (n < 0), 0, by simp, fun h => by simpa using h, fun h => by simp; omega⟩ hn
theorem opposite_is {d : Datum} {n : Int} (h : DIs d n) : DIs d.opposite (-n) := by
  obtain ⟨s, p, rfl, h1, h2⟩ := h
  refine ⟨!s, p, by simp [Datum.opposite], fun h => ?_, fun h => ?_⟩
  · rw [h2 (by omega)]; rfl
  · rw [h1 (by omega)]; rfl
theorem signed_is {n : Int} {s : Bool} (p k : Nat) (h1 : n < 0 → s = true) (h2 : 0 < n → s = false) : signed s (n.natAbs * 2 ^ p) k = n * 2 ^ (p + k) := by
  unfold signed
  rw [Nat.shiftLeft_eq, Nat.mul_assoc, ← Nat.pow_add]
  rcases Int.lt_trichotomy n 0 with h | h | h
  · rw [if_pos (h1 h), Int.natCast_mul, ← Int.neg_mul, show -(n.natAbs : Int) = n by omega]
    norm_cast
  · subst h; simp
  · rw [if_neg (by rw [h2 h]; simp), Int.natCast_mul, show (n.natAbs : Int) = n by omega]
    norm_cast
theorem sum_is {d e : Datum} {a b : Int} (h : DIs d a) (k : DIs e b) : ∃ r, d.sum e = some r ∧ DIs r (a + b) := by
  obtain ⟨s, p, rfl, h1, h2⟩ := h
  obtain ⟨t, q, rfl, k1, k2⟩ := k
  refine ⟨_, rfl, ?_⟩
  have e0 : min (-(p : Int)) (-(q : Int)) = -((max p q : Nat) : Int) := by omega
  have e1 : p + (-(p : Int) - -((max p q : Nat) : Int)).toNat = max p q := by omega
  have e2 : q + (-(q : Int) - -((max p q : Nat) : Int)).toNat = max p q := by omega
  rw [e0, signed_is p _ h1 h2, signed_is q _ k1 k2, e1, e2, ← Int.add_mul]
  generalize max p q = P
  have hP : (0 : Int) < 2 ^ P := Int.pow_pos (by omega)
  refine ⟨_, P, by rw [Int.natAbs_mul, Int.natAbs_pow]; rfl, fun h => ?_, fun h => ?_⟩
  · have h3 : (a + b) * 2 ^ P < 0 := Int.mul_neg_of_neg_of_pos h hP
    rw [if_neg (by omega)]
    simpa using h3
  · have h3 : 0 < (a + b) * 2 ^ P := Int.mul_pos h hP
    rw [if_neg (by omega)]
    simp
    omega
theorem product_is {d e : Datum} {a b : Int} (h : DIs d a) (k : DIs e b) : ∃ r, d.product e = some r ∧ DIs r (a * b) := by
  obtain ⟨s, p, rfl, h1, h2⟩ := h
  obtain ⟨t, q, rfl, k1, k2⟩ := k
  refine ⟨_, rfl, s ^^ t, p + q, ?_, fun h => ?_, fun h => ?_⟩
  · rw [Int.natAbs_mul, Nat.pow_add]
    congr 1
    · rw [Nat.mul_assoc, Nat.mul_left_comm (2 ^ p), ← Nat.mul_assoc]
    · omega
  · rcases Int.lt_trichotomy a 0 with h3 | h3 | h3
    · have : 0 < b := by
        rcases Int.lt_trichotomy b 0 with h4 | h4 | h4
        · have := Int.mul_pos_of_neg_of_neg h3 h4; omega
        · subst h4; simp at h
        · exact h4
      rw [h1 h3, k2 this]; rfl
    · subst h3; simp at h
    · have : b < 0 := by
        rcases Int.lt_trichotomy b 0 with h4 | h4 | h4
        · exact h4
        · subst h4; simp at h
        · have := Int.mul_pos h3 h4; omega
      rw [h2 h3, k1 this]; rfl
  · rcases Int.lt_trichotomy a 0 with h3 | h3 | h3
    · have : b < 0 := by
        rcases Int.lt_trichotomy b 0 with h4 | h4 | h4
        · exact h4
        · subst h4; simp at h
        · have := Int.mul_neg_of_neg_of_pos h3 h4; omega
      rw [h1 h3, k1 this]; rfl
    · subst h3; simp at h
    · have : 0 < b := by
        rcases Int.lt_trichotomy b 0 with h4 | h4 | h4
        · have := Int.mul_neg_of_pos_of_neg h3 h4; omega
        · subst h4; simp at h
        · exact h4
      rw [h2 h3, k2 this]; rfl
theorem add_is {x y : Nat} {a b : Int} (h : Is x a) (k : Is y b) (hn : (a + b).natAbs < 2 ^ 53) : ∃ r, floatBits .add .f64 x y = some r ∧ Is r (a + b) := by
  obtain ⟨r, h1, h2⟩ := sum_is (d := double.read x) (e := double.read y) h k
  exact ⟨double.write r, by show ((double.read x).sum (double.read y)).map double.write = _; rw [h1]; rfl, write_is h2 hn⟩
theorem sub_is {x y : Nat} {a b : Int} (h : Is x a) (k : Is y b) (hn : (a - b).natAbs < 2 ^ 53) : ∃ r, floatBits .sub .f64 x y = some r ∧ Is r (a - b) := by
  obtain ⟨r, h1, h2⟩ := sum_is (d := double.read x) (e := (double.read y).opposite) h (opposite_is k)
  exact ⟨double.write r, by show ((double.read x).sum (double.read y).opposite).map double.write = _; rw [h1]; rfl, write_is h2 hn⟩
theorem mul_is {x y : Nat} {a b : Int} (h : Is x a) (k : Is y b) (hn : (a * b).natAbs < 2 ^ 53) : ∃ r, floatBits .mul .f64 x y = some r ∧ Is r (a * b) := by
  obtain ⟨r, h1, h2⟩ := product_is (d := double.read x) (e := double.read y) h k
  exact ⟨double.write r, by show ((double.read x).product (double.read y)).map double.write = _; rw [h1]; rfl, write_is h2 hn⟩
theorem order_is {x y : Nat} {a b : Int} (h : Is x a) (k : Is y b) : double.order x y = some (compare a b) := by
  obtain ⟨s, p, h0, h1, h2⟩ := h
  obtain ⟨t, q, k0, k1, k2⟩ := k
  unfold Format.order
  rw [h0, k0]
  show some (compare _ _) = _
  have e0 : min (-(p : Int)) (-(q : Int)) = -((max p q : Nat) : Int) := by omega
  have e1 : p + (-(p : Int) - -((max p q : Nat) : Int)).toNat = max p q := by omega
  have e2 : q + (-(q : Int) - -((max p q : Nat) : Int)).toNat = max p q := by omega
  rw [e0, signed_is p _ h1 h2, signed_is q _ k1 k2, e1, e2]
  generalize max p q = P
  have hP : (0 : Int) < 2 ^ P := Int.pow_pos (by omega)
  congr 1
  rcases Int.lt_trichotomy a b with h3 | h3 | h3
  · rw [Int.compare_eq_lt.2 h3, Int.compare_eq_lt.2 (Int.mul_lt_mul_of_pos_right h3 hP)]
  · subst h3; rw [Int.compare_eq_eq.2 rfl, Int.compare_eq_eq.2 rfl]
  · rw [Int.compare_eq_gt.2 h3, Int.compare_eq_gt.2 (Int.mul_lt_mul_of_pos_right h3 hP)]
theorem toInt_is {x : Nat} {a : Int} (h : Is x a) (h1 : -9223372036854775808 ≤ a) (h2 : a ≤ 9223372036854775807) : floatToIntVal .f64 x .i64 = some a := by
  obtain ⟨s, p, h0, h3, h4⟩ := h
  have e : (FloatKind.f64.decode x).toInt .zero = some a := by
    show (double.read x).toInt .zero = _
    rw [h0]
    unfold Datum.toInt Datum.integral
    dsimp only
    have e1 : Toward.zero.cut s ((a.natAbs * 2 ^ p) <<< (-(p : Int)).toNat) (- -(p : Int)).toNat = a.natAbs := by
      rw [show (-(p : Int)).toNat = 0 by omega, show (- -(p : Int)).toNat = p by omega, Nat.shiftLeft_zero]
      by_cases hz : a.natAbs = 0
      · rw [hz]; simp [Toward.cut]
      · have h5 : min p ((a.natAbs * 2 ^ p).log2 + 2) = p := by rw [log2_shift hz]; omega
        unfold Toward.cut
        rw [h5, Nat.one_shiftLeft]
        dsimp only
        rw [Nat.mul_div_cancel _ (Nat.two_pow_pos p)]
        rfl
    rw [e1]
    have := signed_is (n := a) 0 0 h3 h4
    simpa using this
  unfold floatToIntVal
  rw [e]
  have m1 : IntKind.i64.min = -9223372036854775808 := by decide
  have m2 : IntKind.i64.max = 9223372036854775807 := by decide
  dsimp only
  rw [m1, m2, if_pos ⟨h1, h2⟩]
end Go.Proofs.Ytaohnialheccdaa.Float
