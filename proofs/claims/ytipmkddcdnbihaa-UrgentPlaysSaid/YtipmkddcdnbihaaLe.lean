/- Plain facts about numbers in bytes, the least first. No program in sight. -/
import Derived.WalkKit
namespace Go.Proofs.Ytipmkddcdnbihaa.Le
/-- A number's bytes, so many. -/
def le : Nat → Int → List Int
  | 0, _ => []
  | k + 1, n => (n % 256) :: le k (n / 256)
/-- The number of bytes. -/
def of : List Int → Int
  | [] => 0
  | c :: l => c + 256 * of l
def U8s (l : List Int) : Prop := ∀ x ∈ l, 0 ≤ x ∧ x < 256
theorem le_length (k : Nat) : ∀ n, (le k n).length = k := by
  induction k with
  | zero => intro n; rfl
  | succ k ih => intro n; simp [le, ih]
theorem le_u8 (k : Nat) : ∀ n, U8s (le k n) := by
  induction k with
  | zero => intro n x h; simp [le] at h
  | succ k ih =>
    intro n x h
    simp only [le, List.mem_cons] at h
    rcases h with rfl | h
    · omega
    · exact ih _ x h
theorem le_snoc (k : Nat) : ∀ n, le (k + 1) n = le k n ++ [n / 256 ^ k % 256] := by
  induction k with
  | zero => intro n; simp [le]
  | succ k ih =>
    intro n
    rw [le, ih]
    simp only [le, List.cons_append, List.cons.injEq, true_and]
    rw [Int.ediv_ediv_of_nonneg (by omega)]
    congr 3
    rw [Int.pow_succ, Int.mul_comm]
theorem of_bound (l : List Int) (h : U8s l) : 0 ≤ of l ∧ of l < 256 ^ l.length := by
  induction l with
  | nil => simp [of]
  | cons c l ih =>
    have h1 := ih fun x hx => h x (List.mem_cons_of_mem _ hx)
    have h2 := h c List.mem_cons_self
    simp only [of, List.length_cons, Int.pow_succ]
    omega
theorem of_le (k : Nat) : ∀ n, 0 ≤ n → of (le k n) = n % 256 ^ k := by
  induction k with
  | zero => intro n h; simp [le, of]
  | succ k ih =>
    intro n h
    simp only [le, of]
    rw [ih _ (by omega), Int.pow_succ, Int.mul_comm (256 ^ k) 256]
    have h3 := Int.emod_add_mul_ediv n (256 * 256 ^ k)
    rw [← Int.ediv_ediv_of_nonneg (show (0 : Int) ≤ 256 by omega)] at h3
    have h1 := Int.emod_add_mul_ediv (n / 256) (256 ^ k)
    have h2 := Int.emod_add_mul_ediv n 256
    rw [Int.mul_assoc] at h3
    omega
theorem of_le_lt (k : Nat) (n : Int) (h0 : 0 ≤ n) (h1 : n < 256 ^ k) : of (le k n) = n := by
  rw [of_le k n h0, Int.emod_eq_of_lt h0 h1]
theorem le_of (l : List Int) (h : U8s l) : le l.length (of l) = l := by
  induction l with
  | nil => rfl
  | cons c l ih =>
    have h2 := h c List.mem_cons_self
    simp only [List.length_cons, le, of]
    have e1 : (c + 256 * of l) % 256 = c := by omega
    have e2 : (c + 256 * of l) / 256 = of l := by omega
    rw [e1, e2, ih fun x hx => h x (List.mem_cons_of_mem _ hx)]
theorem of_append (a b : List Int) : of (a ++ b) = of a + 256 ^ a.length * of b := by
  induction a with
  | nil => simp [of]
  | cons c a ih => simp only [List.cons_append, of, ih, List.length_cons, Int.pow_succ]; rw [Int.mul_add, Int.mul_comm (256 ^ a.length) 256, Int.mul_assoc]; omega
theorem of_snoc (a : List Int) (c : Int) : of (a ++ [c]) = of a + 256 ^ a.length * c := by rw [of_append]; simp [of]
theorem or_step (j : Nat) (hj : j < 8) (a c : Int) (h0 : 0 ≤ a) (h1 : a < 256 ^ j) (hc0 : 0 ≤ c) (hc1 : c < 256) : Go.bits .or .u64 a (IntKind.u64.wrap (c * 2 ^ (8 * j))) = a + 256 ^ j * c := by
  obtain ⟨a, rfl⟩ := Int.eq_ofNat_of_zero_le h0
  obtain ⟨c, rfl⟩ := Int.eq_ofNat_of_zero_le hc0
  have e2 : (2 : Nat) ^ (8 * j) = 256 ^ j := by rw [Nat.pow_mul]
  have hp : (256 : Nat) ^ j ≤ 256 ^ 7 := Nat.pow_le_pow_right (by omega) (by omega)
  have ha : a < 256 ^ j := by
    have : ((a : Nat) : Int) < ((256 ^ j : Nat) : Int) := by simpa using h1
    exact Int.ofNat_lt.1 this
  have hc : c ≤ 255 := by omega
  have hb : c * 256 ^ j ≤ 255 * 256 ^ 7 := Nat.mul_le_mul hc hp
  have e3 : ((c : Int) * 2 ^ (8 * j)) = ((c * 256 ^ j : Nat) : Int) := by rw [← e2]; simp
  have hw : IntKind.u64.wrap ((c * 256 ^ j : Nat) : Int) = ((c * 256 ^ j : Nat) : Int) := by
    simp only [IntKind.wrap, IntKind.bits, IntKind.signed]
    simp only [Bool.false_and, Bool.false_eq_true, if_false]
    omega
  rw [e3, hw, u64_or_nat a (c * 256 ^ j) (by omega) (by omega), Nat.or_comm, nat_join (8 * j) (c * 256 ^ j) a (by rw [e2]; exact Nat.mul_mod_left _ _) (by rw [e2]; exact ha)]
  simp
  rw [Int.mul_comm]; omega
theorem of_take_bound {l : List Int} {n : Nat} (h : U8s l) (hl : l.length = n) {j : Nat} (hj : j ≤ n) : 0 ≤ of (l.take j) ∧ of (l.take j) < 256 ^ j := by
  have := of_bound (l.take j) fun x hx => h x (List.mem_of_mem_take hx)
  rwa [List.length_take, Nat.min_eq_left (by omega)] at this
end Go.Proofs.Ytipmkddcdnbihaa.Le
