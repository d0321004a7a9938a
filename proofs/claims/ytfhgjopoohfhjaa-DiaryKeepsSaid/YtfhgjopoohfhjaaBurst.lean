/- Plain facts: a burst of at most 32 bits turns the sum. No program in sight. -/
import Derived.Test.YtfhgjopoohfhjaaCrc
namespace Go.Proofs.Ytfhgjopoohfhjaa.Burst
abbrev W := BitVec 32
def poly : W := 2197175160#32
def step (s : W) : W := if s.getLsbD 0 then (s >>> 1) ^^^ poly else s >>> 1
def stepN : Nat → W → W
  | 0, s => s
  | n + 1, s => stepN n (step s)
theorem step_xor (a b : W) : step (a ^^^ b) = step a ^^^ step b := by
  unfold step
  rw [BitVec.getLsbD_xor, BitVec.ushiftRight_xor_distrib]
  cases ha : a.getLsbD 0 <;> cases hb : b.getLsbD 0 <;> simp
  · rw [BitVec.xor_assoc]
  · rw [BitVec.xor_assoc, BitVec.xor_comm (b >>> 1), ← BitVec.xor_assoc]
  · rw [BitVec.xor_assoc, BitVec.xor_comm poly, BitVec.xor_assoc, BitVec.xor_self, BitVec.xor_zero]
theorem step_zero : step 0 = 0 := by decide
theorem stepN_xor (n : Nat) : ∀ a b : W, stepN n (a ^^^ b) = stepN n a ^^^ stepN n b := by
  induction n with
  | zero => intro a b; rfl
  | succ n ih => intro a b; show stepN n (step (a ^^^ b)) = _; rw [step_xor, ih]; rfl
theorem stepN_zero (n : Nat) : stepN n 0 = 0 := by
  induction n with
  | zero => rfl
  | succ n ih => show stepN n (step 0) = 0; rw [step_zero, ih]
/-- Nothing but nothing is sent to nothing. -/
theorem step_ne {s : W} (h : s ≠ 0) : step s ≠ 0 := by
  intro h0
  unfold step at h0
  split at h0
  · have h1 := congrArg (fun x : W => x.getLsbD 31) h0
    simp at h1
    have h2 : poly[31] = true := by decide
    rw [h1] at h2
    cases h2
  · rename_i hl
    apply h
    apply BitVec.eq_of_getLsbD_eq
    intro i hi
    rcases Nat.eq_zero_or_pos i with h1 | h1
    · subst h1; simpa using hl
    · have h2 := congrArg (fun x : W => x.getLsbD (i - 1)) h0
      simp only [BitVec.getLsbD_ushiftRight] at h2
      rw [show 1 + (i - 1) = i by omega] at h2
      simpa using h2
def one (b : Bool) : W := if b then 1 else 0
/-- Bit behind bit. -/
def serial (d : W) (l : List Bool) : W := l.foldl (fun d b => step (d ^^^ one b)) d
theorem serial_append (d : W) (a b : List Bool) : serial d (a ++ b) = serial (serial d a) b := by simp [serial]
theorem serial_ne (l : List Bool) (hl : ∀ b ∈ l, b = false) : ∀ {d : W}, d ≠ 0 → serial d l ≠ 0 := by
  induction l with
  | nil => intro d h; exact h
  | cons b l ih =>
    intro d h
    have hb := hl b List.mem_cons_self
    subst hb
    show serial (step (d ^^^ one false)) l ≠ 0
    refine ih (fun b hb => hl b (List.mem_cons_of_mem _ hb)) (step_ne ?_)
    simpa [one] using h
theorem serial_zero (l : List Bool) (hl : ∀ b ∈ l, b = false) : serial 0 l = 0 := by
  induction l with
  | nil => rfl
  | cons b l ih =>
    have hb := hl b List.mem_cons_self
    subst hb
    show serial (step (0 ^^^ one false)) l = 0
    rw [show step (0 ^^^ one false) = 0 by decide]
    exact ih fun b hb => hl b (List.mem_cons_of_mem _ hb)
theorem step_part (d x : W) : step (d ^^^ x) = step (d ^^^ one (x.getLsbD 0)) ^^^ (x >>> 1) := by
  cases hx : x.getLsbD 0
  · rw [step_xor]
    have h1 : step x = x >>> 1 := by unfold step; rw [hx]; rfl
    rw [h1]
    simp [one]
  · have h1 : x = 1#32 ^^^ (x ^^^ 1#32) := by rw [BitVec.xor_comm x, ← BitVec.xor_assoc, BitVec.xor_self, BitVec.zero_xor]
    have h2 : step (x ^^^ 1#32) = x >>> 1 := by
      have h3 : (x ^^^ 1#32).getLsbD 0 = false := by rw [BitVec.getLsbD_xor, hx]; decide
      unfold step
      rw [h3, BitVec.ushiftRight_xor_distrib]
      have h4 : (1#32 >>> 1 : W) = 0#32 := by decide
      rw [h4]
      simp
    conv => lhs; rw [h1, ← BitVec.xor_assoc, step_xor, h2]
    rfl
theorem stepN_serial (n : Nat) : ∀ (d x : W), (∀ i, n ≤ i → x.getLsbD i = false) → stepN n (d ^^^ x) = serial d ((List.range n).map fun i => x.getLsbD i) := by
  induction n with
  | zero =>
    intro d x h
    have : x = 0 := by
      apply BitVec.eq_of_getLsbD_eq
      intro i _
      rw [h i (Nat.zero_le _)]
      simp
    subst this
    simp [stepN, serial]
  | succ n ih =>
    intro d x h
    show stepN n (step (d ^^^ x)) = _
    rw [step_part, ih _ _ (fun i hi => by rw [BitVec.getLsbD_ushiftRight]; exact h _ (by omega)), List.range_succ_eq_map, List.map_cons, List.map_map]
    show _ = serial (step (d ^^^ one (x.getLsbD 0))) _
    congr 1
    apply List.map_congr_left
    intro i _
    simp [BitVec.getLsbD_ushiftRight, Nat.add_comm]
/-- Bytes. -/
def byte (s : W) (c : Nat) : W := stepN 8 (s ^^^ BitVec.ofNat 32 c)
def run (s : W) (l : List Nat) : W := l.foldl byte s
def bits8 (c : Nat) : List Bool := (List.range 8).map fun i => c.testBit i
theorem byte_serial (s : W) (c : Nat) (h : c < 256) : byte s c = serial s (bits8 c) := by
  unfold byte bits8
  rw [stepN_serial]
  · congr 1
    apply List.map_congr_left
    intro i hi
    have := List.mem_range.1 hi
    rw [BitVec.getLsbD_ofNat]
    simp
    omega
  · intro i hi
    rw [BitVec.getLsbD_ofNat]
    have : c.testBit i = false := Nat.testBit_lt_two_pow (Nat.lt_of_lt_of_le (show c < 2 ^ 8 from h) (Nat.pow_le_pow_right (by omega) hi))
    simp [this]
theorem run_serial (l : List Nat) (h : ∀ c ∈ l, c < 256) : ∀ s, run s l = serial s (l.flatMap bits8) := by
  induction l with
  | nil => intro s; rfl
  | cons c l ih =>
    intro s
    show run (byte s c) l = _
    rw [ih (fun x hx => h x (List.mem_cons_of_mem _ hx)), byte_serial s c (h c List.mem_cons_self), List.flatMap_cons, serial_append]
theorem ofNat_xor (a b : Nat) : BitVec.ofNat 32 (a ^^^ b) = BitVec.ofNat 32 a ^^^ BitVec.ofNat 32 b := by
  apply BitVec.eq_of_getLsbD_eq
  intro i _
  simp only [BitVec.getLsbD_ofNat, BitVec.getLsbD_xor, Nat.testBit_xor]
  cases decide (i < 32) <;> simp
theorem run_xor : ∀ (l e : List Nat), e.length = l.length → ∀ s d, run (s ^^^ d) (List.zipWith (· ^^^ ·) l e) = run s l ^^^ run d e
  | [], [], _, s, d => rfl
  | c :: l, x :: e, h, s, d => by
    show run (byte (s ^^^ d) (c ^^^ x)) _ = run (byte s c) l ^^^ run (byte d x) e
    have h1 : byte (s ^^^ d) (c ^^^ x) = byte s c ^^^ byte d x := by
      unfold byte
      rw [ofNat_xor, ← stepN_xor]
      congr 1
      rw [BitVec.xor_assoc, BitVec.xor_assoc]
      congr 1
      rw [← BitVec.xor_assoc, BitVec.xor_comm d, BitVec.xor_assoc]
    rw [h1]
    exact run_xor l e (by simpa using h) _ _

theorem stepN_ne (n : Nat) : ∀ {s : W}, s ≠ 0 → stepN n s ≠ 0 := by
  induction n with
  | zero => intro s h; exact h
  | succ n ih => intro s h; exact ih (step_ne h)
theorem flat_bits : ∀ (E : List Nat), E.flatMap bits8 = (List.range (8 * E.length)).map fun t => (E.getD (t / 8) 0).testBit (t % 8)
  | [] => rfl
  | c :: E => by
    rw [List.flatMap_cons, flat_bits E, List.length_cons, show 8 * (E.length + 1) = 8 + 8 * E.length by omega, List.range_add, List.map_append, List.map_map]
    have happ : ∀ {a b c d : List Bool}, a = c → b = d → a ++ b = c ++ d := by intro a b c d h1 h2; rw [h1, h2]
    refine happ ?_ ?_
    · apply List.map_congr_left
      intro i hi
      have := List.mem_range.1 hi
      have h1 : i / 8 = 0 := by omega
      have h2 : i % 8 = i := by omega
      simp [h1, h2]
    · apply List.map_congr_left
      intro i _
      have h1 : (8 + i) / 8 = i / 8 + 1 := by omega
      have h2 : (8 + i) % 8 = i % 8 := by omega
      simp [h1, h2]
/-- A burst of at most 32 bits is not sent to nothing. -/
theorem burst (L f : Nat) (E : List Nat) (hE : ∀ c ∈ E, c < 256) (hl : E.length = L) (bits : W) (hb : bits ≠ 0) (hf : f + 32 ≤ 8 * L)
    (hs : ∀ t, t < 8 * L → (E.getD (t / 8) 0).testBit (t % 8) = (decide (f ≤ t ∧ t < f + 32) && bits.getLsbD (t - f))) : run 0 E ≠ 0 := by
  rw [run_serial E hE, flat_bits, hl]
  have h1 : ((List.range (8 * L)).map fun t => (E.getD (t / 8) 0).testBit (t % 8)) = (List.range (8 * L)).map fun t => (decide (f ≤ t ∧ t < f + 32) && bits.getLsbD (t - f)) :=
    List.map_congr_left fun t ht => hs t (List.mem_range.1 ht)
  rw [h1, show 8 * L = f + (32 + (8 * L - f - 32)) by omega, List.range_add, List.range_add, List.map_append, List.map_map, List.map_append, List.map_map, serial_append, serial_append]
  rw [serial_zero _ (by
    intro b hb'
    obtain ⟨t, ht, rfl⟩ := List.mem_map.1 hb'
    have := List.mem_range.1 ht
    have h2 : ¬ (f ≤ t ∧ t < f + 32) := by omega
    simp [h2])]
  apply serial_ne
  · intro b hb'
    obtain ⟨t, _, rfl⟩ := List.mem_map.1 hb'
    have h2 : ¬ (f ≤ f + (32 + t) ∧ f + (32 + t) < f + 32) := by omega
    simp only [Function.comp, h2, decide_false, Bool.false_and]
  · have h3 : ((List.range 32).map ((fun t => decide (f ≤ t ∧ t < f + 32) && bits.getLsbD (t - f)) ∘ fun x => f + x)) = (List.range 32).map fun i => bits.getLsbD i := by
      apply List.map_congr_left
      intro i hi
      have := List.mem_range.1 hi
      have h4 : f ≤ f + i ∧ f + i < f + 32 := by omega
      simp only [Function.comp, h4, and_self, decide_true, Bool.true_and, Nat.add_sub_cancel_left]
    rw [h3, ← stepN_serial 32 0 bits (fun i hi => BitVec.getLsbD_of_ge _ _ hi)]
    exact stepN_ne 32 (by simpa using hb)
/-! The sum of Crc is this one. -/
theorem bit_step (s : W) : Crc.bit (s.toNat : Int) = ((step s).toNat : Int) := by
  have hs := s.isLt
  have h0 : s.getLsbD 0 = decide (s.toNat % 2 = 1) := by rw [BitVec.getLsbD, Nat.testBit_zero]
  have h1 : (s >>> 1).toNat = s.toNat / 2 := by simp [BitVec.toNat_ushiftRight, Nat.shiftRight_eq_div_pow]
  unfold Crc.bit step
  by_cases h : s.toNat % 2 = 1
  · rw [if_pos (by omega), h0, if_pos (by simpa using h), BitVec.toNat_xor, h1]
    rw [show ((s.toNat : Int) / 2) = ((s.toNat / 2 : Nat) : Int) by omega, show (2197175160 : Int) = ((2197175160 : Nat) : Int) by rfl, u32_xor_nat _ _ (by omega) (by omega)]
    rfl
  · rw [if_neg (by omega), h0, if_neg (by simpa using h), h1]
    omega
theorem bitsN_stepN (n : Nat) : ∀ s : W, Crc.bitsN n (s.toNat : Int) = ((stepN n s).toNat : Int) := by
  induction n with
  | zero => intro s; rfl
  | succ n ih => intro s; show Crc.bitsN n (Crc.bit s.toNat) = _; rw [bit_step, ih]; rfl
theorem byte_byte (s : W) (c : Nat) (hc : c < 256) : Crc.byte (s.toNat : Int) (c : Int) = ((byte s c).toNat : Int) := by
  unfold Crc.byte byte
  rw [u32_xor_nat _ _ (by have := s.isLt; omega) (by omega), ← bitsN_stepN, BitVec.toNat_xor, BitVec.toNat_ofNat, Nat.mod_eq_of_lt (by omega)]
theorem run_run : ∀ (l : List Nat) (s : W), (∀ c ∈ l, c < 256) → Crc.run (s.toNat : Int) (l.map fun c : Nat => (c : Int)) = ((run s l).toNat : Int)
  | [], _, _ => rfl
  | c :: l, s, h => by
    show Crc.run (Crc.byte s.toNat c) (l.map _) = _
    rw [byte_byte s c (h c List.mem_cons_self), run_run l _ fun x hx => h x (List.mem_cons_of_mem _ hx)]
    rfl
/-- Bytes that differ from others by such a burst have another sum. -/
theorem sum_ne (h l E : List Nat) (hh : ∀ c ∈ h, c < 256) (hl : ∀ c ∈ l, c < 256) (hE : ∀ c ∈ E, c < 256) (hlen : E.length = l.length) (f : Nat) (bits : W) (hb : bits ≠ 0) (hf : f + 32 ≤ 8 * l.length)
    (hs : ∀ t, t < 8 * l.length → (E.getD (t / 8) 0).testBit (t % 8) = (decide (f ≤ t ∧ t < f + 32) && bits.getLsbD (t - f))) (hx : ∀ c ∈ List.zipWith (· ^^^ ·) l E, c < 256) :
    Crc.sum ((h.map fun c : Nat => (c : Int)) ++ ((List.zipWith (· ^^^ ·) l E).map fun c : Nat => (c : Int))) ≠ Crc.sum ((h.map fun c : Nat => (c : Int)) ++ (l.map fun c : Nat => (c : Int))) := by
  have hburst := burst l.length f E hE hlen bits hb hf hs
  have e0 : (4294967295 - 0 : Int) = ((BitVec.allOnes 32).toNat : Int) := by decide
  unfold Crc.sum Crc.sumOn
  rw [Crc.run_append, Crc.run_append, e0, run_run h _ hh, run_run l _ hl, run_run _ _ hx]
  intro he
  have h1 := run_xor l E hlen (run (BitVec.allOnes 32) h) (0#32)
  rw [BitVec.xor_zero] at h1
  rw [h1] at he
  apply hburst
  have h2 : (run (run (BitVec.allOnes 32) h) l ^^^ run (0#32) E).toNat = (run (run (BitVec.allOnes 32) h) l).toNat := by omega
  have h3 := BitVec.eq_of_toNat_eq h2
  have h4 := congrArg (fun x => run (run (BitVec.allOnes 32) h) l ^^^ x) h3
  simp only [← BitVec.xor_assoc, BitVec.xor_self, BitVec.zero_xor] at h4
  exact h4
end Go.Proofs.Ytfhgjopoohfhjaa.Burst
