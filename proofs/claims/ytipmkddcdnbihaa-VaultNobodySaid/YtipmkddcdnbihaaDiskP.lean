/- Plain facts about disks of cells: no program in sight. -/
import Derived.WalkKit
namespace Go.Proofs.Ytipmkddcdnbihaa.DiskP
/-- What stands in a cell: the last loose write to it, or what is safe. -/
def over (was : List Int) (loose : List (Int × List Int)) (c : Int) : List Int := loose.foldl (fun b q => if q.1 = c then q.2 else b) was
def readC (cells : List (List Int)) (loose : List (Int × List Int)) (c : Nat) : List Int := over (cells.getD c []) loose c
theorem over_none {was : List Int} {c : Int} : ∀ {l : List (Int × List Int)}, (∀ q ∈ l, q.1 ≠ c) → over was l c = was
  | [], _ => rfl
  | q :: l, h => by
    show over (if q.1 = c then q.2 else was) l c = was
    rw [if_neg (h q List.mem_cons_self)]
    exact over_none fun q hq => h q (List.mem_cons_of_mem _ hq)
theorem over_append (was : List Int) (l m : List (Int × List Int)) (c : Int) : over was (l ++ m) c = over (over was l c) m c := by
  simp [over, List.foldl_append]
theorem over_hit {was : List Int} {l : List (Int × List Int)} {c : Int} {k : Nat} {q : Int × List Int} (hq : l[k]? = some q) (hc : q.1 = c) (h : ∀ r ∈ l.drop (k + 1), r.1 ≠ c) : over was l c = q.2 := by
  have hk := (List.getElem?_eq_some_iff.1 hq).1
  have e : l = l.take k ++ (q :: l.drop (k + 1)) := by
    have h1 := List.getElem_cons_drop (as := l) (i := k) hk
    have h2 : l[k] = q := (List.getElem?_eq_some_iff.1 hq).2
    rw [h2] at h1
    rw [h1, List.take_append_drop]
  rw [e, over_append]
  show over (if q.1 = c then q.2 else _) _ c = q.2
  rw [if_pos hc]
  exact over_none h
/-- One write made safe. -/
def put1 (cells : List (List Int)) (q : Int × List Int) : List (List Int) := cells.set q.1.toNat q.2
def puts (cells : List (List Int)) (l : List (Int × List Int)) : List (List Int) := l.foldl put1 cells
theorem puts_length (cells : List (List Int)) (l : List (Int × List Int)) : (puts cells l).length = cells.length := by
  induction l generalizing cells with
  | nil => rfl
  | cons q l ih => show (puts (put1 cells q) l).length = _; rw [ih]; simp [put1]
theorem puts_snoc (cells : List (List Int)) (l : List (Int × List Int)) (q : Int × List Int) : puts cells (l ++ [q]) = put1 (puts cells l) q := by
  simp [puts, List.foldl_append]
theorem puts_all {p : List Int → Prop} {cells : List (List Int)} {l : List (Int × List Int)} (hc : ∀ b ∈ cells, p b) (hl : ∀ q ∈ l, p q.2) : ∀ b ∈ puts cells l, p b := by
  induction l generalizing cells with
  | nil => exact hc
  | cons q l ih =>
    refine ih (cells := put1 cells q) (fun b hb => ?_) fun q hq => hl q (List.mem_cons_of_mem _ hq)
    rcases List.mem_or_eq_of_mem_set hb with h | h
    · exact hc b h
    · rw [h]; exact hl q List.mem_cons_self
theorem puts_get {cells : List (List Int)} {l : List (Int × List Int)} (c : Nat) (hc : c < cells.length) (hl : ∀ q ∈ l, 0 ≤ q.1) : (puts cells l).getD c [] = over (cells.getD c []) l c := by
  induction l generalizing cells with
  | nil => rfl
  | cons q l ih =>
    show (puts (put1 cells q) l).getD c [] = over (if q.1 = c then q.2 else cells.getD c []) l c
    rw [ih (by simpa [put1] using hc) fun q hq => hl q (List.mem_cons_of_mem _ hq)]
    congr 1
    have h0 := hl q List.mem_cons_self
    unfold put1
    rw [List.getD_eq_getElem?_getD, List.getElem?_set]
    by_cases h : q.1 = c
    · rw [if_pos h, if_pos (by omega), if_pos (by omega)]; rfl
    · rw [if_neg h, if_neg (by omega), ← List.getD_eq_getElem?_getD]
/-- The first bytes of some over others. -/
def cutN (n : Int) (m : Nat) : Nat := (min (max n 0) (m : Int)).toNat
theorem cutN_le (n : Int) (m : Nat) : cutN n m ≤ m := by unfold cutN; omega
def torn (was b : List Int) (n : Int) : List Int := b.take (cutN n b.length) ++ was.drop (cutN n b.length)
theorem torn_length {was b : List Int} {n : Int} {m : Nat} (h1 : was.length ≤ m) (h2 : b.length ≤ m) : (torn was b n).length ≤ m := by
  have := cutN_le n b.length
  unfold torn
  simp
  omega
theorem torn_all {p : Int → Prop} {was b : List Int} {n : Int} (h1 : ∀ x ∈ was, p x) (h2 : ∀ x ∈ b, p x) : ∀ x ∈ torn was b n, p x := fun x hx => by
  rcases List.mem_append.1 hx with h | h
  · exact h2 x (List.mem_of_mem_take h)
  · exact h1 x (List.mem_of_mem_drop h)
/-- What is safe behind a crash. -/
def crash (cells : List (List Int)) (loose : List (Int × List Int)) (keep bytes : Int) : List (List Int) :=
  let k := cutN keep loose.length
  let c := puts cells (loose.take k)
  match loose[k]? with
  | none => c
  | some q => put1 c (q.1, torn (c.getD q.1.toNat []) q.2 bytes)
theorem crash_other {cells : List (List Int)} {loose : List (Int × List Int)} {keep bytes : Int} {i : Nat} (hi : i < cells.length) (h0 : ∀ q ∈ loose, 0 ≤ q.1) (hno : ∀ q ∈ loose, q.1 ≠ (i : Int)) : (crash cells loose keep bytes).getD i [] = cells.getD i [] := by
  have h1 : (puts cells (loose.take (cutN keep loose.length))).getD i [] = cells.getD i [] := by
    rw [puts_get i hi fun q hq => h0 q (List.mem_of_mem_take hq)]
    exact over_none fun q hq => hno q (List.mem_of_mem_take hq)
  unfold crash
  dsimp only
  split
  · exact h1
  · rename_i q hq
    have hq' := List.mem_of_getElem? hq
    have h2 := h0 q hq'
    have h3 := hno q hq'
    unfold put1
    rw [List.getD_eq_getElem?_getD, List.getElem?_set_ne (by dsimp only; omega), ← List.getD_eq_getElem?_getD]
    exact h1
theorem crash_length (cells : List (List Int)) (loose : List (Int × List Int)) (keep bytes : Int) : (crash cells loose keep bytes).length = cells.length := by
  unfold crash
  dsimp only
  split
  · exact puts_length _ _
  · simp [put1, puts_length]
end Go.Proofs.Ytipmkddcdnbihaa.DiskP
