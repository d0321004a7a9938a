/- Plain facts on lines: digits, numbers, words, steps. No program in sight. -/
namespace Go.Proofs.Ytfhgjopoohfhjaa.ScriptP
abbrev L := List UInt8
/-! ### Digits and numbers -/
def chr (n : Nat) : UInt8 := UInt8.ofNat (48 + n)
def digits (n : Nat) : L := if n < 10 then [chr n] else digits (n / 10) ++ [chr (n % 10)]
termination_by n
decreasing_by omega
theorem digits_small {n : Nat} (h : n < 10) : digits n = [chr n] := by rw [digits, if_pos h]
theorem digits_more {n d : Nat} (h : n ≠ 0) (hd : d < 10) : digits (n * 10 + d) = digits n ++ [chr d] := by
  rw [digits, if_neg (by omega), show (n * 10 + d) / 10 = n by omega, show (n * 10 + d) % 10 = d by omega]
def digitsI (n : Int) : L := if n < 0 then [] else digits n.toNat
def dig (c : UInt8) : Bool := decide (48 ≤ c.toNat) && decide (c.toNat ≤ 57)
theorem dig_iff {c : UInt8} : dig c = true ↔ 48 ≤ c.toNat ∧ c.toNat ≤ 57 := by simp [dig]
theorem chr_dig {c : UInt8} (h : dig c = true) : chr (c.toNat - 48) = c := by
  have := dig_iff.1 h
  unfold chr
  rw [show 48 + (c.toNat - 48) = c.toNat by omega]
  simp
def val : L → Nat → Nat
  | [], n => n
  | c :: cs, n => val cs (n * 10 + (c.toNat - 48))
theorem val_ge : ∀ (s : L) (n : Nat), n ≤ val s n
  | [], n => Nat.le_refl n
  | c :: cs, n => by have := val_ge cs (n * 10 + (c.toNat - 48)); simp only [val]; omega
theorem val_pow : ∀ (s : L) (n : Nat), n * 10 ^ s.length ≤ val s n
  | [], n => by simp [val]
  | c :: cs, n => by
    have h1 := val_pow cs (n * 10 + (c.toNat - 48))
    simp only [val, List.length_cons]
    refine Nat.le_trans ?_ h1
    rw [Nat.pow_succ, Nat.mul_comm (10 ^ cs.length) 10, ← Nat.mul_assoc]
    exact Nat.mul_le_mul_right _ (by omega)
def most : Nat := 1073741824
def numFrom (z : Bool) : L → Nat → Nat → Option Nat
  | [], _, n => some n
  | c :: cs, i, n => if dig c = false ∨ (i = 1 ∧ z = true) ∨ most < n * 10 + (c.toNat - 48) then none else numFrom z cs (i + 1) (n * 10 + (c.toNat - 48))
def zero0 : L → Bool
  | [] => false
  | c :: _ => c.toNat == 48
def numP (s : L) : Option Nat := if s = [] then none else numFrom (zero0 s) s 0 0
def numR (s : L) : Option Nat := if s.length < 1 ∨ 10 < s.length ∨ (1 < s.length ∧ zero0 s = true) then none else if s.all dig = true ∧ val s 0 ≤ most then some (val s 0) else none
theorem numFrom_iff (z : Bool) (m : Nat) : ∀ (s : L) (i n : Nat), n ≤ most → (numFrom z s i n = some m ↔ s.all dig = true ∧ ¬ (z = true ∧ i ≤ 1 ∧ 1 < i + s.length) ∧ val s n ≤ most ∧ m = val s n)
  | [], i, n, hn => by
    simp only [numFrom, val, List.all_nil, List.length_nil, Option.some.injEq]
    exact ⟨fun h => ⟨trivial, by omega, hn, h.symm⟩, fun h => h.2.2.2.symm⟩
  | c :: cs, i, n, hn => by
    have e1 : (c :: cs).all dig = (dig c && cs.all dig) := rfl
    have e2 : val (c :: cs) n = val cs (n * 10 + (c.toNat - 48)) := rfl
    have e3 : (c :: cs).length = cs.length + 1 := rfl
    rw [e1, e2, e3, Bool.and_eq_true]
    show (if dig c = false ∨ (i = 1 ∧ z = true) ∨ most < n * 10 + (c.toNat - 48) then none else numFrom z cs (i + 1) (n * 10 + (c.toNat - 48))) = some m ↔ _
    by_cases hc : dig c = false ∨ (i = 1 ∧ z = true) ∨ most < n * 10 + (c.toNat - 48)
    · rw [if_pos hc]
      refine ⟨fun h => (by cases h), fun ⟨⟨h1, _⟩, h2, h3, _⟩ => ?_⟩
      rcases hc with hc | ⟨hc1, hc2⟩ | hc
      · rw [hc] at h1; cases h1
      · exact absurd ⟨hc2, by omega, by omega⟩ h2
      · have := val_ge cs (n * 10 + (c.toNat - 48)); omega
    · rw [if_neg hc, numFrom_iff z m cs (i + 1) _ (by omega)]
      simp only [not_or] at hc
      obtain ⟨hd, hz, hm⟩ := hc
      have hd' : dig c = true := by simpa using hd
      constructor
      · rintro ⟨h1, h2, h3, h4⟩
        exact ⟨⟨hd', h1⟩, fun ⟨k1, k2, k3⟩ => h2 ⟨k1, by have : i ≠ 1 := fun h => hz ⟨h, k1⟩; omega, by omega⟩, h3, h4⟩
      · rintro ⟨⟨_, h1⟩, h2, h3, h4⟩
        exact ⟨h1, fun ⟨k1, k2, k3⟩ => h2 ⟨k1, by omega, by omega⟩, h3, h4⟩
theorem numR_iff (s : L) (m : Nat) : numR s = some m ↔ s ≠ [] ∧ s.length ≤ 10 ∧ ¬ (1 < s.length ∧ zero0 s = true) ∧ s.all dig = true ∧ val s 0 ≤ most ∧ m = val s 0 := by
  unfold numR
  by_cases h : s.length < 1 ∨ 10 < s.length ∨ (1 < s.length ∧ zero0 s = true)
  · rw [if_pos h]
    refine ⟨fun h => (by cases h), fun ⟨h1, h2, h3, _⟩ => ?_⟩
    rcases h with h | h | h
    · exact absurd (List.eq_nil_of_length_eq_zero (by omega)) h1
    · omega
    · exact absurd h h3
  · rw [if_neg h]
    simp only [not_or] at h
    have hne : s ≠ [] := by rintro rfl; simp at h
    by_cases h2 : s.all dig = true ∧ val s 0 ≤ most
    · rw [if_pos h2]
      simp only [Option.some.injEq]
      exact ⟨fun e => ⟨hne, by omega, h.2.2, h2.1, h2.2, e.symm⟩, fun e => e.2.2.2.2.2.symm⟩
    · rw [if_neg h2]
      exact ⟨fun h => (by cases h), fun h => absurd ⟨h.2.2.2.1, h.2.2.2.2.1⟩ h2⟩
/-- The program's numbers are the document's. -/
theorem numP_eq (s : L) : numP s = numR s := by
  apply Option.ext
  intro m
  rw [numR_iff]
  unfold numP
  by_cases hs : s = []
  · rw [if_pos hs]
    exact ⟨fun h => (by cases h), fun h => absurd hs h.1⟩
  · rw [if_neg hs, numFrom_iff _ _ _ _ _ (Nat.zero_le _)]
    have hp : 1 ≤ s.length := by
      rcases Nat.eq_zero_or_pos s.length with h | h
      · exact absurd (List.eq_nil_of_length_eq_zero h) hs
      · exact h
    constructor
    · rintro ⟨h1, h2, h3, h4⟩
      have hz : ¬ (1 < s.length ∧ zero0 s = true) := fun ⟨k1, k2⟩ => h2 ⟨k2, by omega, by omega⟩
      refine ⟨hs, ?_, hz, h1, h3, h4⟩
      cases s with
      | nil => exact absurd rfl hs
      | cons c cs =>
        rcases Nat.lt_or_ge 10 (c :: cs).length with h10 | h10
        · exfalso
          have hc : dig c = true := by simp at h1; exact h1.1
          have hd := dig_iff.1 hc
          have h48 : c.toNat ≠ 48 := fun e => hz ⟨by omega, by simp [zero0, e]⟩
          have h4 := val_pow cs (0 * 10 + (c.toNat - 48))
          simp only [val] at h3
          have h5 : 10 ^ 10 ≤ 10 ^ cs.length := Nat.pow_le_pow_right (by omega) (by simp at h10; omega)
          have h6 : 1 * 10 ^ cs.length ≤ (0 * 10 + (c.toNat - 48)) * 10 ^ cs.length := Nat.mul_le_mul_right _ (by omega)
          have h7 : (10 : Nat) ^ 10 = 10000000000 := by decide
          unfold most at h3
          omega
        · exact h10
    · rintro ⟨_, _, hz, h1, h3, h4⟩
      exact ⟨h1, fun ⟨k1, _, k3⟩ => hz ⟨by omega, k1⟩, h3, h4⟩
theorem numFrom_digits (z : Bool) : ∀ (s p : L) (i n m : Nat), digits n = p → 1 ≤ i → (i = 1 → z = false → n ≠ 0) → (1 < i → n ≠ 0) → numFrom z s i n = some m → digits m = p ++ s
  | [], p, i, n, m, hp, _, _, _, h => by simp only [numFrom, Option.some.injEq] at h; subst h; simpa using hp
  | c :: cs, p, i, n, m, hp, hi, h1, h2, h => by
    simp only [numFrom] at h
    split at h
    · cases h
    · rename_i hn
      simp only [not_or] at hn
      obtain ⟨hd, hz, _⟩ := hn
      have hd' : dig c = true := by simpa using hd
      have hn0 : n ≠ 0 := by
        rcases Nat.lt_or_ge 1 i with h' | h'
        · exact h2 h'
        · exact h1 (by omega) (by cases z; rfl; exact absurd ⟨by omega, rfl⟩ hz)
      have hc := dig_iff.1 hd'
      have h3 := numFrom_digits z cs (p ++ [c]) (i + 1) _ m (by rw [digits_more hn0 (by omega), chr_dig hd', hp]) (by omega) (by omega) (by omega) h
      simpa using h3
theorem numP_digits {s : L} {m : Nat} (h : numP s = some m) : digits m = s := by
  unfold numP at h
  cases s with
  | nil => simp at h
  | cons c cs =>
    rw [if_neg (by simp)] at h
    simp only [numFrom] at h
    split at h
    · cases h
    · rename_i hn
      simp only [not_or] at hn
      obtain ⟨hd, _, _⟩ := hn
      have hd' : dig c = true := by simpa using hd
      have hc := dig_iff.1 hd'
      have h3 := numFrom_digits (zero0 (c :: cs)) cs [c] 1 _ m (by rw [digits_small (by omega), show 0 * 10 + (c.toNat - 48) = c.toNat - 48 by omega, chr_dig hd']) (by omega) (fun _ hz => by
        have : c.toNat ≠ 48 := by simpa [zero0] using hz
        omega) (by omega) h
      simpa using h3
/-! ### Words -/
def cut : L → L × L × Bool
  | [] => ([], [], false)
  | c :: cs => if c = 32 then ([], cs, true) else (c :: (cut cs).1, (cut cs).2.1, (cut cs).2.2)
def words : L → List L
  | [] => [[]]
  | c :: cs => if c = 32 then [] :: words cs else match words cs with
    | [] => [[c]]
    | w :: ws => (c :: w) :: ws
/-- What stands behind a blank, word by word. -/
def rem (rest : L) (more : Bool) : List L := if more then words rest else []
theorem words_cut : ∀ (l : L), words l = (cut l).1 :: rem (cut l).2.1 (cut l).2.2
  | [] => rfl
  | c :: cs => by
    by_cases h : c = 32
    · subst h; rfl
    · simp only [words, cut, if_neg h]
      rw [words_cut cs]
def joinW : List L → L
  | [] => []
  | w :: ws => 32 :: w ++ joinW ws
theorem cut_join : ∀ (l : L), l = (cut l).1 ++ (if (cut l).2.2 then 32 :: (cut l).2.1 else [])
  | [] => rfl
  | c :: cs => by
    by_cases h : c = 32
    · subst h; rfl
    · simp only [cut, if_neg h]
      have := cut_join cs
      rw [List.cons_append, ← this]
theorem rem_join (rest : L) (more : Bool) : (if more then 32 :: rest else []) = joinW (rem rest more) := by
  have key : ∀ (n : Nat) (l : L), l.length ≤ n → 32 :: l = joinW (words l) := by
    intro n
    induction n with
    | zero =>
      intro l hl
      obtain rfl : l = [] := List.eq_nil_of_length_eq_zero (by omega)
      rfl
    | succ n ih =>
      intro l hl
      rw [words_cut l]
      have h1 := cut_join l
      cases hm : (cut l).2.2 with
      | false => rw [hm] at h1; simp [rem, joinW]; simpa using h1
      | true =>
        rw [hm] at h1
        simp only [if_true] at h1
        have hlen : (cut l).2.1.length ≤ n := by have := congrArg List.length h1; simp at this; omega
        simp only [rem, joinW, if_true]
        rw [← ih _ hlen]
        simpa using h1
  cases more with
  | false => rfl
  | true => simp only [rem, if_true]; exact key rest.length rest (Nat.le_refl _)
theorem line_join (l : L) : l = (cut l).1 ++ joinW (rem (cut l).2.1 (cut l).2.2) := by
  rw [← rem_join]
  exact cut_join l
theorem rem_nil {rest : L} {more : Bool} : rem rest more = [] ↔ more = false := by
  cases more with
  | false => simp [rem]
  | true => simp [rem, words_cut rest]
/-! ### Kinds -/
def nm : Nat → L
  | 1 => [112, 117, 116]
  | 2 => [103, 101, 116]
  | 3 => [114, 101, 109, 111, 118, 101]
  | 4 => [108, 105, 115, 116]
  | 5 => [115, 116, 97, 116]
  | 6 => [116, 105, 99, 107]
  | 7 => [115, 99, 114, 117, 98]
  | 8 => [104, 101, 97, 108]
  | 9 => [99, 114, 97, 115, 104]
  | 10 => [115, 116, 97, 114, 116]
  | 11 => [100, 105, 101]
  | 12 => [108, 111, 115, 101]
  | 13 => [116, 114, 105, 112]
  | 14 => [115, 112, 111, 105, 108]
  | 15 => [119, 105, 112, 101]
  | 16 => [102, 117, 115, 101]
  | 17 => [115, 101, 116, 116, 108, 101]
  | _ => []
def nameI (k : Int) : L := if 1 ≤ k ∧ k ≤ 17 then nm k.toNat else []
def kindOf (w : L) : Nat := ((List.range 18).find? fun k => decide (1 ≤ k) && decide (nm k = w)).getD 0
def Kind (w : L) (k : Nat) : Prop := (1 ≤ k ∧ k ≤ 17 ∧ nm k = w) ∨ (k = 0 ∧ ∀ j, 1 ≤ j → j ≤ 17 → nm j ≠ w)
theorem kind_spec (w : L) : Kind w (kindOf w) := by
  unfold kindOf
  cases h : (List.range 18).find? fun k => decide (1 ≤ k) && decide (nm k = w) with
  | none =>
    refine .inr ⟨rfl, fun j h1 h2 h3 => ?_⟩
    have := List.find?_eq_none.1 h j (List.mem_range.2 (by omega))
    simp [h1, h3] at this
  | some k =>
    have h1 := List.find?_some h
    have h2 := List.mem_range.1 (List.mem_of_find?_eq_some h)
    simp only [Bool.and_eq_true, decide_eq_true_eq] at h1
    exact .inl ⟨h1.1, by simp only [Option.getD_some]; omega, h1.2⟩
theorem nm_inj : ∀ i j : Fin 18, 1 ≤ i.val → 1 ≤ j.val → nm i.val = nm j.val → i = j := by decide
theorem kind_unique {w : L} {k : Nat} (h : Kind w k) : k = kindOf w := by
  have h' := kind_spec w
  generalize kindOf w = k' at h'
  rcases h with ⟨h1, h2, h3⟩ | ⟨rfl, h3⟩ <;> rcases h' with ⟨k1, k2, k3⟩ | ⟨rfl, k3⟩
  · have := nm_inj ⟨k, by omega⟩ ⟨k', by omega⟩ h1 k1 (h3.trans k3.symm)
    simpa using this
  · exact absurd h3 (k3 k h1 h2)
  · exact absurd k3 (h3 k' k1 k2)
  · rfl
theorem kindOf_le (w : L) : kindOf w ≤ 17 := by rcases kind_spec w with ⟨_, h, _⟩ | ⟨h, _⟩ <;> omega
def form : Nat → L
  | 1 => [110, 100]
  | 2 => [110]
  | 3 => [110]
  | 5 => [110]
  | 6 => [97]
  | 7 => [97]
  | 9 => [119, 97, 98]
  | 10 => [119]
  | 11 => [119]
  | 12 => [119, 97, 98]
  | 13 => [119, 97, 98]
  | 14 => [119, 97, 98, 120]
  | 15 => [119, 97]
  | 16 => [97, 98]
  | 17 => [97]
  | _ => []
def formI (k : Int) : L := if 1 ≤ k ∧ k ≤ 17 then form k.toNat else []
/-! ### Steps -/
structure St where
  kind : Int
  name : L
  data : L
  node : Int
  a : Int
  b : Int
  bits : Int
def St.of (k : Int) : St := ⟨k, [], [], 0, 0, 0, 0⟩
/-- One word, where it belongs. -/
def wordV (s : St) (c : UInt8) (w : L) : St :=
  if c = 110 then { s with name := w } else if c = 119 then { s with node := (numP w).getD 0 } else if c = 97 then { s with a := (numP w).getD 0 } else if c = 98 then { s with b := (numP w).getD 0 } else { s with bits := ((numP w).getD 0 % 256 : Nat) }
def wordOk (c : UInt8) (w : L) : Bool :=
  if c = 110 then true else if c = 119 ∨ c = 97 ∨ c = 98 then (numP w).isSome else (numP w).isSome && decide ((numP w).getD 0 ≤ 255)
def go : L → St → L → Bool → Option St
  | [], s, _, more => if more then none else some s
  | c :: cs, s, rest, more => if more = false then none else if c = 100 then some { s with data := rest } else if wordOk c (cut rest).1 = false then none else go cs (wordV s c (cut rest).1) (cut rest).2.1 (cut rest).2.2
/-- The program's reading of a line. -/
def parseP (l : L) : Option St := if kindOf (cut l).1 = 0 ∨ 10 ∈ l then none else go (form (kindOf (cut l).1)) (St.of (kindOf (cut l).1)) (cut l).2.1 (cut l).2.2
def nums : List L → Option (List Nat)
  | [] => some []
  | w :: ws => match numR w with
    | none => none
    | some n => match nums ws with
      | none => none
      | some ns => some (n :: ns)
def many : Nat → Nat
  | 6 => 1 | 7 => 1 | 9 => 3 | 10 => 1 | 11 => 1 | 12 => 3 | 13 => 3 | 14 => 4 | 15 => 2 | 16 => 2 | 17 => 1 | _ => 0
def putR (l : L) : Option St := if (words l).length < 3 then none else some ⟨1, (words l).getD 1 [], l.drop (((words l).getD 0 []).length + ((words l).getD 1 []).length + 2), 0, 0, 0, 0⟩
def fill (k : Nat) (n : List Nat) : Option St :=
  if k = 6 ∨ k = 7 ∨ k = 17 then some { St.of k with a := n.getD 0 0 }
  else if k = 10 ∨ k = 11 then some { St.of k with node := n.getD 0 0 }
  else if k = 9 ∨ k = 12 ∨ k = 13 then some { St.of k with node := n.getD 0 0, a := n.getD 1 0, b := n.getD 2 0 }
  else if k = 14 then (if 255 < n.getD 3 0 then none else some { St.of k with node := n.getD 0 0, a := n.getD 1 0, b := n.getD 2 0, bits := (n.getD 3 0 % 256 : Nat) })
  else if k = 15 then some { St.of k with node := n.getD 0 0, a := n.getD 1 0 }
  else if k = 16 then some { St.of k with a := n.getD 0 0, b := n.getD 1 0 }
  else some (St.of k)
/-- The document's reading of a line. -/
def parseR (l : L) : Option St :=
  if 10 ∈ l then none
  else if kindOf ((words l).getD 0 []) = 0 then none
  else if kindOf ((words l).getD 0 []) = 1 then putR l
  else if kindOf ((words l).getD 0 []) = 2 ∨ kindOf ((words l).getD 0 []) = 3 ∨ kindOf ((words l).getD 0 []) = 5 then (if (words l).length ≠ 2 then none else some { St.of (kindOf ((words l).getD 0 [])) with name := (words l).getD 1 [] })
  else match nums (words l).tail with
    | none => none
    | some n => if n.length ≠ many (kindOf ((words l).getD 0 [])) then none else fill (kindOf ((words l).getD 0 [])) n
/-- By words. -/
def goW : L → St → List L → Option St
  | [], s, [] => some s
  | [], _, _ :: _ => none
  | _ :: _, _, [] => none
  | c :: cs, s, w :: ws => if wordOk c w = false then none else goW cs (wordV s c w) ws
theorem go_words : ∀ (cs : L) (s : St) (rest : L) (more : Bool), (∀ c ∈ cs, c ≠ 100) → go cs s rest more = goW cs s (rem rest more)
  | [], s, rest, more, _ => by
    cases more with
    | false => rfl
    | true => simp only [go, rem, if_true, words_cut rest, goW]
  | c :: cs, s, rest, more, h => by
    cases more with
    | false => rfl
    | true =>
      have hc : c ≠ 100 := h c List.mem_cons_self
      simp only [go, rem, if_true, words_cut rest, goW, if_neg hc, Bool.true_eq_false, if_false]
      split
      · rfl
      · exact go_words cs _ _ _ fun c hc => h c (List.mem_cons_of_mem _ hc)
theorem parse_eq (l : L) : parseP l = parseR l := by
  unfold parseP parseR
  have hw := words_cut l
  have h0 : (words l).getD 0 [] = (cut l).1 := by rw [hw]; rfl
  rw [h0]
  by_cases hn : 10 ∈ l
  · rw [if_pos (.inr hn), if_pos hn]
  · rw [if_neg hn]
    have hk := kindOf_le (cut l).1
    generalize hkk : kindOf (cut l).1 = k at hk ⊢
    by_cases hk0 : k = 0
    · rw [if_pos (.inl hk0), if_pos hk0]
    · rw [if_neg (by rintro (h | h); exact hk0 h; exact hn h), if_neg hk0]
      have ht : (words l).tail = rem (cut l).2.1 (cut l).2.2 := by rw [hw]; rfl
      by_cases hk1 : k = 1
      · subst hk1
        rw [if_pos rfl]
        unfold putR
        have hl := cut_join l
        cases hm : (cut l).2.2 with
        | false =>
          rw [hm] at hw
          rw [if_pos (by rw [hw]; simp [rem])]
          rfl
        | true =>
          rw [hm] at hw hl
          have hw2 := words_cut (cut l).2.1
          have hl2 := cut_join (cut l).2.1
          simp only [rem, if_true] at hw
          rw [hw2] at hw
          simp only [form, go, Bool.true_eq_false, if_false, show ¬ ((110 : UInt8) = 100) by decide, show wordOk 110 (cut (cut l).2.1).1 = true by rfl]
          cases hm2 : (cut (cut l).2.1).2.2 with
          | false =>
            rw [hm2] at hw
            rw [if_pos rfl, if_pos (by rw [hw]; simp [rem])]
          | true =>
            rw [hm2] at hw hl2
            rw [if_neg (c := (words l).length < 3) (by rw [hw]; simp [rem, words_cut (cut (cut l).2.1).2.1])]
            have e1 : (words l).getD 1 [] = (cut (cut l).2.1).1 := by rw [hw]; rfl
            have e2 : (words l).getD 0 [] = (cut l).1 := h0
            have e3 : l.drop ((cut l).1.length + (cut (cut l).2.1).1.length + 2) = (cut (cut l).2.1).2.1 := by
              simp only [if_true] at hl hl2
              rw [hl2] at hl
              generalize (cut l).1 = x at hl
              generalize (cut (cut l).2.1).1 = y at hl
              generalize (cut (cut l).2.1).2.1 = z at hl
              rw [hl, show x ++ 32 :: (y ++ 32 :: z) = (x ++ 32 :: (y ++ [32])) ++ z by simp]
              rw [List.drop_left' (by simp; omega)]
            rw [e1, e2, e3]
            simp only [Bool.true_eq_false, if_false, if_true]
            rfl
      · rw [if_neg hk1]
        have hlen : (words l).length = (rem (cut l).2.1 (cut l).2.2).length + 1 := by rw [hw]; rfl
        have hg1 : (words l).getD 1 [] = (rem (cut l).2.1 (cut l).2.2).getD 0 [] := by rw [hw]; rfl
        have hf : ∀ c ∈ form k, c ≠ 100 := by
          have key : ∀ j : Fin 18, j.val ≠ 1 → ∀ c ∈ form j.val, c ≠ 100 := by decide
          exact key ⟨k, by omega⟩ hk1
        rw [go_words _ _ _ _ hf, ht, hlen, hg1]
        generalize rem (cut l).2.1 (cut l).2.2 = ws
        clear hw h0 ht hlen hg1 hkk hn hf
        have hall : k = 2 ∨ k = 3 ∨ k = 4 ∨ k = 5 ∨ k = 6 ∨ k = 7 ∨ k = 8 ∨ k = 9 ∨ k = 10 ∨ k = 11 ∨ k = 12 ∨ k = 13 ∨ k = 14 ∨ k = 15 ∨ k = 16 ∨ k = 17 := by omega
        rcases hall with rfl | rfl | rfl | rfl | rfl | rfl | rfl | rfl | rfl | rfl | rfl | rfl | rfl | rfl | rfl | rfl
        all_goals
          rcases ws with _ | ⟨w1, _ | ⟨w2, _ | ⟨w3, _ | ⟨w4, _ | ⟨w5, ws⟩⟩⟩⟩⟩
        all_goals
          simp only [form, goW, nums, many, fill, wordOk, wordV, numP_eq, List.length_cons, List.length_nil, List.getD_cons_zero, List.getD_cons_succ, St.of, show ¬ ((97 : UInt8) = 110) by decide, show ¬ ((98 : UInt8) = 110) by decide, show ¬ ((119 : UInt8) = 110) by decide, show ¬ ((120 : UInt8) = 110) by decide, show ¬ ((97 : UInt8) = 119) by decide, show ¬ ((98 : UInt8) = 119) by decide, show ¬ ((98 : UInt8) = 97) by decide, show ¬ ((120 : UInt8) = 119) by decide, show ¬ ((120 : UInt8) = 97) by decide, show ¬ ((120 : UInt8) = 98) by decide, if_true, if_false]
        all_goals (try rfl)
        all_goals (try generalize numR w1 = o1); (try generalize numR w2 = o2); (try generalize numR w3 = o3); (try generalize numR w4 = o4); (try generalize numR w5 = o5); (try generalize nums ws = o6)
        all_goals (try (rcases o1 with _ | n1)) <;> (try (rcases o2 with _ | n2)) <;> (try (rcases o3 with _ | n3)) <;> (try (rcases o4 with _ | n4)) <;> (try (rcases o5 with _ | n5)) <;> (try (rcases o6 with _ | n6))
        all_goals (try rfl)
        all_goals (try (simp; done))
        all_goals (by_cases h255 : n4 ≤ 255)
        all_goals (try (simp [h255]; done))
        all_goals (try (simp [h255]; omega))
/-! ### Writing -/
def field (s : St) (c : UInt8) : L :=
  if c = 110 then s.name else if c = 100 then s.data else if c = 119 then digitsI s.node else if c = 97 then digitsI s.a else if c = 98 then digitsI s.b else digitsI s.bits
def write (s : St) : L := nameI s.kind ++ (formI s.kind).flatMap fun c => 32 :: field s c
theorem digitsI_nat (n : Nat) : digitsI (n : Int) = digits n := by
  unfold digitsI
  rw [if_neg (by omega)]
  rfl
theorem numP_write {w : L} (h : (numP w).isSome = true) : digitsI (((numP w).getD 0 : Nat) : Int) = w := by
  obtain ⟨m, hm⟩ := Option.isSome_iff_exists.1 h
  rw [hm, Option.getD_some, digitsI_nat]
  exact numP_digits hm
/-- What is read is written as it was. -/
theorem parse_write {l : L} {s : St} (h : parseP l = some s) : write s = l := by
  unfold parseP at h
  split at h
  · cases h
  · rename_i hn
    have hk0 : kindOf (cut l).1 ≠ 0 := fun e => hn (.inl e)
    have hsp := kind_spec (cut l).1
    have hline := line_join l
    have hcutl := cut_join l
    rcases hsp with ⟨h1, h2, h3⟩ | ⟨h0, _⟩
    · generalize hkk : kindOf (cut l).1 = k at *
      have hl : l = nm k ++ joinW (rem (cut l).2.1 (cut l).2.2) := by rw [h3]; exact hline
      have hnI : nameI (k : Int) = nm k := by unfold nameI; rw [if_pos ⟨by omega, by omega⟩]; rfl
      have hfI : formI (k : Int) = form k := by unfold formI; rw [if_pos ⟨by omega, by omega⟩]; rfl
      by_cases hk1 : k = 1
      · subst hk1
        have hr := rem_join (cut l).2.1 (cut l).2.2
        rw [← hr] at hl
        clear hr hline hcutl hkk hn h3 hnI hfI
        generalize (cut l).2.1 = r at h hl
        generalize (cut l).2.2 = m at h hl
        have hl2 := cut_join r
        cases m with
        | false => simp [form, go] at h
        | true =>
          simp only [form, go, Bool.true_eq_false, if_false, show ¬ ((110 : UInt8) = 100) by decide, show ∀ w, wordOk 110 w = true from fun _ => rfl] at h
          generalize (cut r).2.2 = m2 at h hl2
          generalize (cut r).1 = y at h hl2
          generalize (cut r).2.1 = z at h hl2
          cases m2 with
          | false => simp at h
          | true =>
            simp only [Bool.true_eq_false, if_false, if_true, Option.some.injEq] at h
            subst h
            simp only [if_true] at hl hl2
            rw [hl, hl2]
            simp [write, wordV, nameI, formI, form, field, St.of]
      · have hf : ∀ c ∈ form k, c ≠ 100 := by
          have key : ∀ j : Fin 18, j.val ≠ 1 → ∀ c ∈ form j.val, c ≠ 100 := by decide
          exact key ⟨k, by omega⟩ hk1
        rw [go_words _ _ _ _ hf] at h
        generalize rem (cut l).2.1 (cut l).2.2 = ws at h hl
        have hall : k = 2 ∨ k = 3 ∨ k = 4 ∨ k = 5 ∨ k = 6 ∨ k = 7 ∨ k = 8 ∨ k = 9 ∨ k = 10 ∨ k = 11 ∨ k = 12 ∨ k = 13 ∨ k = 14 ∨ k = 15 ∨ k = 16 ∨ k = 17 := by omega
        clear hn h3 hline hcutl hkk hf hk0
        rw [hl]
        clear hl
        have hw : ∀ (w : L), (numP w).isSome = true → digitsI (((numP w).getD 0 : Nat) : Int) = w := fun w hw => numP_write hw
        have hkind : s.kind = k := by
          have key : ∀ (cs : L) (s0 : St) (ws : List L), goW cs s0 ws = some s → s.kind = s0.kind := by
            intro cs
            induction cs with
            | nil => intro s0 ws h; cases ws <;> simp [goW] at h; rw [h]
            | cons c cs ih =>
              intro s0 ws h
              cases ws with
              | nil => simp [goW] at h
              | cons w ws =>
                simp only [goW] at h
                split at h
                · cases h
                · have := ih _ _ h
                  rw [this]
                  unfold wordV
                  repeat (first | rfl | split)
          exact key _ _ _ h
        unfold write
        rw [hkind, hnI, hfI]
        clear hkind hnI hfI
        congr 1
        rcases hall with rfl | rfl | rfl | rfl | rfl | rfl | rfl | rfl | rfl | rfl | rfl | rfl | rfl | rfl | rfl | rfl
        all_goals
          rcases ws with _ | ⟨w1, _ | ⟨w2, _ | ⟨w3, _ | ⟨w4, _ | ⟨w5, ws⟩⟩⟩⟩⟩
        all_goals
          simp only [form, goW, wordOk, wordV, St.of, show ¬ ((97 : UInt8) = 110) by decide, show ¬ ((98 : UInt8) = 110) by decide, show ¬ ((119 : UInt8) = 110) by decide, show ¬ ((120 : UInt8) = 110) by decide, show ¬ ((97 : UInt8) = 119) by decide, show ¬ ((98 : UInt8) = 119) by decide, show ¬ ((98 : UInt8) = 97) by decide, show ¬ ((120 : UInt8) = 119) by decide, show ¬ ((120 : UInt8) = 97) by decide, show ¬ ((120 : UInt8) = 98) by decide, if_true, if_false] at h
        all_goals (try (cases h; done))
        all_goals (try generalize hn1 : numP w1 = o1 at h); (try generalize hn2 : numP w2 = o2 at h); (try generalize hn3 : numP w3 = o3 at h); (try generalize hn4 : numP w4 = o4 at h)
        all_goals (try (rcases o1 with _ | n1)) <;> (try (rcases o2 with _ | n2)) <;> (try (rcases o3 with _ | n3)) <;> (try (rcases o4 with _ | n4))
        all_goals (try (simp at h; done))
        all_goals (try have d1 := numP_digits hn1)
        all_goals (try have d2 := numP_digits hn2)
        all_goals (try have d3 := numP_digits hn3)
        all_goals (try have d4 := numP_digits hn4)
        all_goals (try (simp at h; subst h; simp [form, field, joinW]; done))
        all_goals (try (simp at h; subst h; simp [form, field, joinW, digitsI_nat, d1]; done))
        all_goals (try (simp at h; subst h; simp [form, field, joinW, digitsI_nat, d1, d2]; done))
        all_goals (try (simp at h; subst h; simp [form, field, joinW, digitsI_nat, d1, d2, d3]; done))
        by_cases h255 : n4 ≤ 255
        · simp [h255] at h
          subst h
          have e : ((n4 : Int) % 256) = n4 := by omega
          simp [form, field, joinW, e, digitsI_nat, d1, d2, d3, d4]
        · simp [h255] at h
    · exact absurd h0 hk0
end Go.Proofs.Ytfhgjopoohfhjaa.ScriptP
