/- Plain facts: the bits of a frame's load that a pattern turns, one behind the other; what comes of it does not open. No program in sight. -/
import Derived.Test.YtfhgjopoohfhjaaBurst
import Derived.Test.YtfhgjopoohfhjaaFrame
namespace Go.Proofs.Ytfhgjopoohfhjaa.Flip
open Le (of le)
open Frm
def zip (l E : List Nat) : List Int := (List.zipWith (· ^^^ ·) l E).map fun c : Nat => (c : Int)
structure Ok (l : List Nat) (fr bits k : Nat) (E : List Nat) : Prop where
  len : E.length = l.length
  u8 : ∀ c ∈ E, c < 256
  bit : ∀ t, t < 8 * l.length → (E.getD (t / 8) 0).testBit (t % 8) = (decide (fr ≤ t ∧ t < fr + k) && bits.testBit (t - fr))
theorem zip_length {l E : List Nat} (h : E.length = l.length) : (zip l E).length = l.length := by simp [zip, h]
theorem ok_zero (l : List Nat) (fr bits : Nat) : Ok l fr bits 0 (List.replicate l.length 0) := by
  refine ⟨by simp, fun c hc => by rw [(List.mem_replicate.1 hc).2]; omega, fun t ht => ?_⟩
  have h1 : ¬ (fr ≤ t ∧ t < fr + 0) := by omega
  have h2 : (List.replicate l.length 0).getD (t / 8) 0 = 0 := by
    rw [List.getD_eq_getElem?_getD, List.getElem?_replicate]; split <;> rfl
  rw [h2, decide_eq_false h1]
  simp
theorem zip_zero (l : List Nat) : zip l (List.replicate l.length 0) = l.map fun c : Nat => (c : Int) := by
  have : List.zipWith (· ^^^ ·) l (List.replicate l.length 0) = l := by
    induction l with
    | nil => rfl
    | cons c l ih => rw [List.length_cons, List.replicate_succ, List.zipWith_cons_cons, ih]; simp
  rw [zip, this]
theorem ok_skip {l E : List Nat} {fr bits k : Nat} (h : Ok l fr bits k E) (hb : bits.testBit k = false) : Ok l fr bits (k + 1) E := by
  refine ⟨h.len, h.u8, fun t ht => (h.bit t ht).trans ?_⟩
  by_cases h1 : t = fr + k
  · subst h1
    rw [Nat.add_sub_cancel_left, hb, Bool.and_false, Bool.and_false]
  · have : (fr ≤ t ∧ t < fr + k) ↔ (fr ≤ t ∧ t < fr + (k + 1)) := by omega
    simp only [this]
theorem ok_flip {l E : List Nat} {fr bits k : Nat} (h : Ok l fr bits k E) (hb : bits.testBit k = true) (hk : fr + k < 8 * l.length) : Ok l fr bits (k + 1) (E.set ((fr + k) / 8) (E.getD ((fr + k) / 8) 0 ^^^ 2 ^ ((fr + k) % 8))) := by
  have hq : (fr + k) / 8 < E.length := by rw [h.len]; omega
  have hlt : E.getD ((fr + k) / 8) 0 < 256 := by
    rw [List.getD_eq_getElem?_getD, List.getElem?_eq_getElem hq]
    exact h.u8 _ (List.getElem_mem _)
  have hp : 2 ^ ((fr + k) % 8) < 256 := Nat.lt_of_lt_of_le (Nat.pow_lt_pow_right (by omega) (show (fr + k) % 8 < 8 by omega)) (by decide)
  refine ⟨by simp [h.len], fun c hc => ?_, fun t ht => ?_⟩
  · rcases List.mem_or_eq_of_mem_set hc with h1 | rfl
    · exact h.u8 c h1
    · exact Nat.xor_lt_two_pow (n := 8) hlt hp
  · by_cases h1 : t / 8 = (fr + k) / 8
    · have e : (E.set ((fr + k) / 8) (E.getD ((fr + k) / 8) 0 ^^^ 2 ^ ((fr + k) % 8))).getD (t / 8) 0 = E.getD ((fr + k) / 8) 0 ^^^ 2 ^ ((fr + k) % 8) := by
        rw [h1, List.getD_eq_getElem?_getD, List.getElem?_set_self hq]; rfl
      have hbit := h.bit t ht
      rw [h1] at hbit
      rw [e, Nat.testBit_xor, hbit, Nat.testBit_two_pow]
      by_cases h2 : t = fr + k
      · subst h2
        have h3 : ¬ (fr ≤ fr + k ∧ fr + k < fr + k) := by omega
        have h4 : fr ≤ fr + k ∧ fr + k < fr + (k + 1) := by omega
        rw [decide_eq_false h3, decide_eq_true h4, Nat.add_sub_cancel_left, hb]
        simp
      · have h3 : ¬ ((fr + k) % 8 = t % 8) := by omega
        have : (fr ≤ t ∧ t < fr + k) ↔ (fr ≤ t ∧ t < fr + (k + 1)) := by omega
        rw [decide_eq_false h3]
        simp only [this, Bool.xor_false]
    · have e : (E.set ((fr + k) / 8) (E.getD ((fr + k) / 8) 0 ^^^ 2 ^ ((fr + k) % 8))).getD (t / 8) 0 = E.getD (t / 8) 0 := by
        rw [List.getD_eq_getElem?_getD, List.getElem?_set_ne (by omega), ← List.getD_eq_getElem?_getD]
      rw [e, h.bit t ht]
      have : (fr ≤ t ∧ t < fr + k) ↔ (fr ≤ t ∧ t < fr + (k + 1)) := by
        have : t ≠ fr + k := fun h => h1 (by rw [h])
        omega
      simp only [this]
theorem zip_get : ∀ {l E : List Nat} {q : Nat}, E.length = l.length → q < l.length → (zip l E).getD q 0 = ((l.getD q 0 ^^^ E.getD q 0 : Nat) : Int)
  | c :: l, x :: E, 0, _, _ => rfl
  | c :: l, x :: E, q + 1, h, hq => zip_get (l := l) (E := E) (q := q) (by simpa using h) (by simpa using hq)
theorem zip_set : ∀ {l E : List Nat} {q b : Nat}, E.length = l.length → q < l.length → zip l (E.set q (E.getD q 0 ^^^ b)) = (zip l E).set q (((l.getD q 0 ^^^ E.getD q 0) ^^^ b : Nat) : Int)
  | c :: l, x :: E, 0, b, _, _ => by simp [zip, Nat.xor_assoc]
  | c :: l, x :: E, q + 1, b, h, hq => by
    have := zip_set (l := l) (E := E) (q := q) (b := b) (by simpa using h) (by simpa using hq)
    simpa [zip] using this
theorem zip_u8 {l E : List Nat} (hl : ∀ c ∈ l, c < 256) (hE : ∀ c ∈ E, c < 256) : ∀ c ∈ List.zipWith (· ^^^ ·) l E, c < 256 := by
  intro c hc
  rw [List.zipWith_eq_zipWith_take_min] at hc
  obtain ⟨i, hi, rfl⟩ := List.getElem_of_mem hc
  rw [List.getElem_zipWith]
  exact Nat.xor_lt_two_pow (n := 8) (hl _ (List.mem_of_mem_take (List.getElem_mem _))) (hE _ (List.mem_of_mem_take (List.getElem_mem _)))
/-- What a frame's head says of what follows. -/
theorem parts (kind s : Int) (b : List Int) (hl : b.length ≤ 65536) (hs0 : 0 ≤ s) (hs1 : s < 4294967296) :
    form (head kind b.length ++ le 4 s ++ b) ∧ (head kind b.length ++ le 4 s ++ b).take 8 = head kind b.length ∧ loadOf (head kind b.length ++ le 4 s ++ b) = b ∧ sOf (head kind b.length ++ le 4 s ++ b) = s := by
  generalize hX : head kind b.length ++ le 4 s ++ b = X
  have e : X = le 2 53021 ++ (le 2 kind ++ (le 4 b.length ++ (le 4 s ++ b))) := by rw [← hX]; simp [head]
  have e1 : mOf X = 53021 := by rw [e, mOf, take_app (Le.le_length _ _)]; rfl
  have d2 : X.drop 2 = le 2 kind ++ (le 4 b.length ++ (le 4 s ++ b)) := by rw [e, drop_app (Le.le_length _ _)]
  have d4 : X.drop 4 = le 4 b.length ++ (le 4 s ++ b) := by rw [show (4 : Nat) = 2 + 2 from rfl, ← List.drop_drop, d2, drop_app (Le.le_length _ _)]
  have d8 : X.drop 8 = le 4 s ++ b := by rw [show (8 : Nat) = 4 + 4 from rfl, ← List.drop_drop, d4, drop_app (Le.le_length _ _)]
  have d12 : X.drop 12 = b := by rw [show (12 : Nat) = 8 + 4 from rfl, ← List.drop_drop, d8, drop_app (Le.le_length _ _)]
  have e3 : nOf X = b.length := by rw [nOf, d4, take_app (Le.le_length _ _), Le.of_le_lt _ _ (by omega) (by omega)]
  have e4 : sOf X = s := by rw [sOf, d8, take_app (Le.le_length _ _), Le.of_le_lt _ _ hs0 hs1]
  have e5 : loadOf X = b := by rw [loadOf, e3, d12, Int.toNat_natCast, List.take_length]
  have e6 : X.take 8 = head kind b.length := by rw [← hX, List.append_assoc]; exact take_app (Frm.head_length _ _)
  have e7 : X.length = 12 + b.length := by rw [← hX]; simp [Frm.head_length, Le.le_length]; omega
  exact ⟨⟨by omega, e1, by rw [e3]; omega, by rw [e3, e7]; omega⟩, e6, e5, e4⟩
theorem nat_list (xs : List Int) (h : Le.U8s xs) : (xs.map Int.toNat).map (fun c : Nat => (c : Int)) = xs ∧ ∀ c ∈ xs.map Int.toNat, c < 256 := by
  constructor
  · rw [List.map_map]
    conv => rhs; rw [← List.map_id xs]
    apply List.map_congr_left
    intro x hx
    have := h x hx
    simp only [Function.comp, id]
    omega
  · intro c hc
    obtain ⟨x, hx, rfl⟩ := List.mem_map.1 hc
    have := h x hx
    omega
/-- The turned frame has the form of one, and a sum that is not its own. -/
theorem ends (kind : Int) (l E : List Nat) (hl : ∀ c ∈ l, c < 256) (fr bits : Nat) (h : Ok l fr bits 32 E) (hb0 : bits ≠ 0) (hb1 : bits < 4294967296) (hf : fr + 32 ≤ 8 * l.length) (hn : l.length ≤ 65536) :
    form (head kind l.length ++ le 4 (Crc.sum (head kind l.length ++ l.map fun c : Nat => (c : Int))) ++ zip l E) ∧ ¬ good (head kind l.length ++ le 4 (Crc.sum (head kind l.length ++ l.map fun c : Nat => (c : Int))) ++ zip l E) := by
  have hs := Crc.sum_u32 (head kind l.length ++ l.map fun c : Nat => (c : Int))
  have hz := zip_length h.len
  have hp := parts kind (Crc.sum (head kind l.length ++ l.map fun c : Nat => (c : Int))) (zip l E) (by omega) hs.1 hs.2
  rw [hz] at hp
  obtain ⟨h1, h2, h3, h4⟩ := hp
  refine ⟨h1, fun hg => ?_⟩
  rw [good, h2, h3, h4] at hg
  obtain ⟨e1, e2⟩ := nat_list (head kind l.length) (Frm.head_u8 _ _)
  rw [← e1] at hg
  refine Burst.sum_ne _ l E e2 hl h.u8 h.len fr (BitVec.ofNat 32 bits) ?_ hf ?_ (zip_u8 hl h.u8) hg
  · intro h0
    have := congrArg BitVec.toNat h0
    rw [BitVec.toNat_ofNat, Nat.mod_eq_of_lt (by omega)] at this
    exact hb0 this
  · intro t ht
    rw [h.bit t ht]
    by_cases h5 : fr ≤ t ∧ t < fr + 32
    · rw [BitVec.getLsbD_ofNat, decide_eq_true (show t - fr < 32 by omega), Bool.true_and]
    · rw [decide_eq_false h5]; rfl
end Go.Proofs.Ytfhgjopoohfhjaa.Flip
