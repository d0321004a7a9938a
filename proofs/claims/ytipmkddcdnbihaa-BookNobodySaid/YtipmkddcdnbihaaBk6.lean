/- Texts put together: Crc, Frame, DiaryP, TapeP, Burst, Flip, DiaryKeepsP, BookP, PackB, BookPl, BookOp. Contracts and plain facts, no condition but what each says. -/
import Derived.WalkKit
import Derived.Test.YtipmkddcdnbihaaBk5
/- Plain facts about the sum CRC-32C, bit by bit: no program in sight. -/
namespace Go.Proofs.Ytipmkddcdnbihaa.Crc

/-- One bit's step. -/
def bit (s : Int) : Int := if s % 2 = 1 then Go.bits .xor .u32 (s / 2) 2197175160 else s / 2
/-- So many bits' steps. -/
def bitsN : Nat → Int → Int
  | 0, s => s
  | n + 1, s => bitsN n (bit s)
/-- One byte's step. -/
def byte (s c : Int) : Int := bitsN 8 (Go.bits .xor .u32 s c)
/-- All bytes' steps. -/
def run (s : Int) (l : List Int) : Int := l.foldl byte s
/-- The sum of bytes behind others. -/
def sumOn (s : Int) (l : List Int) : Int := 4294967295 - run (4294967295 - s) l
def sum (l : List Int) : Int := sumOn 0 l

def U32 (s : Int) : Prop := 0 ≤ s ∧ s < 4294967296
theorem xor_u32 (a b : Int) : U32 (Go.bits .xor .u32 a b) := by
  have h := (BitVec.ofInt 32 a ^^^ BitVec.ofInt 32 b).isLt
  unfold U32 Go.bits
  simp [IntKind.wrap, IntKind.bits, IntKind.signed]
  omega
theorem bit_u32 {s : Int} (h : U32 s) : U32 (bit s) := by
  unfold bit
  split
  · exact xor_u32 _ _
  · unfold U32 at *; omega
theorem bitsN_u32 (n : Nat) : ∀ {s : Int}, U32 s → U32 (bitsN n s) := by
  induction n with
  | zero => intro s h; exact h
  | succ n ih => intro s h; exact ih (bit_u32 h)
theorem byte_u32 (s c : Int) : U32 (byte s c) := bitsN_u32 8 (xor_u32 _ _)
theorem run_u32 (l : List Int) : ∀ {s : Int}, U32 s → U32 (run s l) := by
  induction l with
  | nil => intro s h; exact h
  | cons c l ih => intro s _; exact ih (byte_u32 s c)
theorem sumOn_u32 {s : Int} (h : U32 s) (l : List Int) : U32 (sumOn s l) := by
  have := run_u32 l (s := 4294967295 - s) (by unfold U32 at *; omega)
  unfold sumOn U32 at *
  omega
theorem sum_u32 (l : List Int) : U32 (sum l) := sumOn_u32 (by unfold U32; omega) l
theorem run_append (s : Int) (a b : List Int) : run s (a ++ b) = run (run s a) b := by simp [run]
theorem sumOn_append (s : Int) (a b : List Int) : sumOn (sumOn s a) b = sumOn s (a ++ b) := by
  unfold sumOn
  rw [run_append]
  congr 2
  omega
theorem run_snoc (s : Int) (l : List Int) (c : Int) : run s (l ++ [c]) = byte (run s l) c := by simp [run]
theorem bitsN_snoc (n : Nat) : ∀ s, bitsN (n + 1) s = bit (bitsN n s) := by
  induction n with
  | zero => intro s; rfl
  | succ n ih => intro s; show bitsN (n + 1) (bit s) = _; rw [ih]; rfl
theorem not_u32 {s : Int} (h : U32 s) : Go.bits .xor .u32 IntKind.u32.max s = 4294967295 - s := by
  obtain ⟨n, rfl⟩ := Int.eq_ofNat_of_zero_le h.1
  have hn : n < 4294967296 := by have := h.2; omega
  have e : IntKind.u32.max = ((4294967295 : Nat) : Int) := by decide
  rw [e, u32_xor_nat _ _ (by omega) hn]
  have : (4294967295 ^^^ n : Nat) = 4294967295 - n := by
    have h3 : BitVec.allOnes 32 ^^^ BitVec.ofNat 32 n = ~~~ BitVec.ofNat 32 n := BitVec.allOnes_xor
    have h4 := congrArg BitVec.toNat h3
    rw [BitVec.toNat_xor, BitVec.toNat_not, BitVec.toNat_allOnes, BitVec.toNat_ofNat, Nat.mod_eq_of_lt (by simpa using hn)] at h4
    simpa using h4
  rw [this]; omega
theorem bit_odd {s : Int} (h : s % 2 = 1) : bit s = Go.bits .xor .u32 (s / 2) 2197175160 := if_pos h
theorem bit_even {s : Int} (h : ¬ s % 2 = 1) : bit s = s / 2 := if_neg h
theorem and_one {s : Int} (h : U32 s) : Go.bits .and .u32 s 1 = s % 2 := by
  rw [u32_and _ _ h.1 h.2 (by omega) (by omega)]
  show ((s.toNat &&& 1 : Nat) : Int) = _
  rw [nat_mask1]
  have := h.1
  omega
end Go.Proofs.Ytipmkddcdnbihaa.Crc
/- Plain facts about frames: what a frame is, and what is opened. No program in sight. -/
namespace Go.Proofs.Ytipmkddcdnbihaa.Frm
open Le (le of)
/-- What stands ahead of the sum. -/
def head (kind n : Int) : List Int := le 2 53021 ++ le 2 kind ++ le 4 n
def frame (kind : Int) (b : List Int) : List Int := head kind b.length ++ le 4 (Crc.sum (head kind b.length ++ b)) ++ b
def mOf (xs : List Int) : Int := of (xs.take 2)
def kOf (xs : List Int) : Int := of ((xs.drop 2).take 2)
def nOf (xs : List Int) : Int := of ((xs.drop 4).take 4)
def sOf (xs : List Int) : Int := of ((xs.drop 8).take 4)
def loadOf (xs : List Int) : List Int := (xs.drop 12).take (nOf xs).toNat
/-- Is there a frame's head, and room for what it bears? -/
def form (xs : List Int) : Prop := 12 ≤ xs.length ∧ mOf xs = 53021 ∧ nOf xs ≤ 65536 ∧ nOf xs ≤ xs.length - 12
def good (xs : List Int) : Prop := Crc.sum (xs.take 8 ++ loadOf xs) = sOf xs
instance (xs : List Int) : Decidable (form xs) := by unfold form; infer_instance
instance (xs : List Int) : Decidable (good xs) := by unfold good; infer_instance
theorem head_length (kind n : Int) : (head kind n).length = 8 := by simp [head, Le.le_length]
theorem head_u8 (kind n : Int) : Le.U8s (head kind n) := by
  intro x hx
  simp only [head, List.mem_append] at hx
  rcases hx with (h | h) | h
  · exact Le.le_u8 _ _ x h
  · exact Le.le_u8 _ _ x h
  · exact Le.le_u8 _ _ x h
theorem frame_length (kind : Int) (b : List Int) : (frame kind b).length = 12 + b.length := by simp [frame, head_length, Le.le_length]; omega
theorem frame_u8 (kind : Int) (b : List Int) (h : Le.U8s b) : Le.U8s (frame kind b) := by
  intro x hx
  simp only [frame, List.mem_append] at hx
  rcases hx with (h1 | h1) | h1
  · exact head_u8 _ _ x h1
  · exact Le.le_u8 _ _ x h1
  · exact h x h1
theorem nOf_nonneg (xs : List Int) (h : Le.U8s xs) : 0 ≤ nOf xs := (Le.of_bound _ fun x hx => h x (List.mem_of_mem_drop (List.mem_of_mem_take hx))).1
theorem loadOf_length (xs : List Int) (h : Le.U8s xs) (hf : form xs) : ((loadOf xs).length : Int) = nOf xs := by
  have := nOf_nonneg xs h
  unfold form at hf
  simp only [loadOf, List.length_take, List.length_drop]
  omega
theorem take_app {a b : List Int} {n : Nat} (h : a.length = n) : (a ++ b).take n = a := by subst h; simp
theorem drop_app {a b : List Int} {n : Nat} (h : a.length = n) : (a ++ b).drop n = b := by subst h; simp
/-- What is framed is opened, with anything behind it. -/
theorem open_frame (kind : Int) (b more : List Int) (hk0 : 0 ≤ kind) (hk1 : kind < 65536) (_ : Le.U8s b) (hl : b.length ≤ 65536) :
    form (frame kind b ++ more) ∧ good (frame kind b ++ more) ∧ kOf (frame kind b ++ more) = kind ∧ nOf (frame kind b ++ more) = b.length ∧ loadOf (frame kind b ++ more) = b := by
  have hs := Crc.sum_u32 (head kind b.length ++ b)
  have e : frame kind b ++ more = le 2 53021 ++ (le 2 kind ++ (le 4 b.length ++ (le 4 (Crc.sum (head kind b.length ++ b)) ++ (b ++ more)))) := by simp [frame, head]
  have e1 : mOf (frame kind b ++ more) = 53021 := by rw [e, mOf, take_app (Le.le_length _ _)]; rfl
  have d2 : (frame kind b ++ more).drop 2 = le 2 kind ++ (le 4 b.length ++ (le 4 (Crc.sum (head kind b.length ++ b)) ++ (b ++ more))) := by rw [e, drop_app (Le.le_length _ _)]
  have d4 : (frame kind b ++ more).drop 4 = le 4 b.length ++ (le 4 (Crc.sum (head kind b.length ++ b)) ++ (b ++ more)) := by
    rw [show (4 : Nat) = 2 + 2 from rfl, ← List.drop_drop, d2, drop_app (Le.le_length _ _)]
  have d8 : (frame kind b ++ more).drop 8 = le 4 (Crc.sum (head kind b.length ++ b)) ++ (b ++ more) := by
    rw [show (8 : Nat) = 4 + 4 from rfl, ← List.drop_drop, d4, drop_app (Le.le_length _ _)]
  have d12 : (frame kind b ++ more).drop 12 = b ++ more := by
    rw [show (12 : Nat) = 8 + 4 from rfl, ← List.drop_drop, d8, drop_app (Le.le_length _ _)]
  have e2 : kOf (frame kind b ++ more) = kind := by rw [kOf, d2, take_app (Le.le_length _ _), Le.of_le_lt _ _ hk0 hk1]
  have e3 : nOf (frame kind b ++ more) = b.length := by rw [nOf, d4, take_app (Le.le_length _ _), Le.of_le_lt _ _ (by omega) (by omega)]
  have e4 : sOf (frame kind b ++ more) = Crc.sum (head kind b.length ++ b) := by rw [sOf, d8, take_app (Le.le_length _ _), Le.of_le_lt _ _ hs.1 hs.2]
  have e5 : loadOf (frame kind b ++ more) = b := by rw [loadOf, e3, d12]; exact take_app (by simp)
  have e6 : (frame kind b ++ more).take 8 = head kind b.length := by
    have : frame kind b ++ more = head kind b.length ++ (le 4 (Crc.sum (head kind b.length ++ b)) ++ (b ++ more)) := by simp [frame]
    rw [this]; exact take_app (head_length _ _)
  refine ⟨⟨by simp [frame_length]; omega, e1, by rw [e3]; omega, by rw [e3]; simp [frame_length]; omega⟩, ?_, e2, e3, e5⟩
  rw [good, e5, e6, e4]
/-- The frames that bytes begin with: where each stands, its kind, and what it bears. -/
def scan : Nat → Int → List Int → List (Int × Int × List Int)
  | 0, _, _ => []
  | f + 1, p, xs => if form xs ∧ good xs then (p, kOf xs, loadOf xs) :: scan f (p + 12 + nOf xs) (xs.drop (12 + (nOf xs).toNat)) else []
/-- How many bytes these are. -/
def used : Nat → Int → List Int → Int
  | 0, p, _ => p
  | f + 1, p, xs => if form xs ∧ good xs then used f (p + 12 + nOf xs) (xs.drop (12 + (nOf xs).toNat)) else p
theorem scan_stop {f : Nat} {p : Int} {xs : List Int} (h : ¬ (form xs ∧ good xs)) : scan f p xs = [] ∧ used f p xs = p := by
  cases f with
  | zero => exact ⟨rfl, rfl⟩
  | succ f => exact ⟨if_neg h, if_neg h⟩
theorem scan_go {f : Nat} {p : Int} {xs : List Int} (h : form xs ∧ good xs) (hl : xs.length ≤ f) :
    ∃ g, f = g + 1 ∧ scan f p xs = (p, kOf xs, loadOf xs) :: scan g (p + 12 + nOf xs) (xs.drop (12 + (nOf xs).toNat)) ∧ used f p xs = used g (p + 12 + nOf xs) (xs.drop (12 + (nOf xs).toNat)) ∧ (xs.drop (12 + (nOf xs).toNat)).length ≤ g := by
  cases f with
  | zero => have := h.1.1; omega
  | succ f => exact ⟨f, rfl, if_pos h, if_pos h, by simp; omega⟩
end Go.Proofs.Ytipmkddcdnbihaa.Frm
/- Plain facts about records among frames: no program in sight. -/
namespace Go.Proofs.Ytipmkddcdnbihaa.DiaryP
open Frm
abbrev It := Int × Int × List Int
/-- Does a frame bear the record of number j + 1? -/
def okAt (j : Nat) (it : It) : Prop := it.2.1 = 2 ∧ 8 ≤ it.2.2.length ∧ it.2.2.length ≤ 60008 ∧ Le.of (it.2.2.take 8) = (j : Int) + 1
instance (j : Nat) (it : It) : Decidable (okAt j it) := by unfold okAt; infer_instance
/-- The records that frames begin with, from number j + 1 on, and where they end. -/
def recs : List It → Nat → Int → List (List Int) × Int
  | [], _, u => ([], u)
  | it :: l, j, u => if okAt j it then (it.2.2.drop 8 :: (recs l (j + 1) u).1, (recs l (j + 1) u).2) else ([], it.1)
def outs (l : List It) : List (List Int) := l.map fun it => it.2.2.drop 8
theorem recs_go {l : List It} {j : Nat} {u : Int} {it : It} (h : l[j]? = some it) (hk : okAt j it) : recs (l.drop j) j u = (it.2.2.drop 8 :: (recs (l.drop (j + 1)) (j + 1) u).1, (recs (l.drop (j + 1)) (j + 1) u).2) := by
  have hj := List.getElem?_eq_some_iff.1 h
  rw [← List.getElem_cons_drop hj.1, hj.2]
  simp only [recs]
  rw [if_pos hk]
theorem recs_stop {l : List It} {j : Nat} {u : Int} {it : It} (h : l[j]? = some it) (hk : ¬ okAt j it) : recs (l.drop j) j u = ([], it.1) := by
  have hj := List.getElem?_eq_some_iff.1 h
  rw [← List.getElem_cons_drop hj.1, hj.2]
  simp only [recs]
  rw [if_neg hk]
theorem recs_end {l : List It} {u : Int} : recs (l.drop l.length) l.length u = ([], u) := by rw [List.drop_length]; rfl
theorem outs_next {l : List It} {j : Nat} {it : It} (h : l[j]? = some it) : outs (l.take (j + 1)) = outs (l.take j) ++ [it.2.2.drop 8] := by
  have hj := List.getElem?_eq_some_iff.1 h
  rw [List.take_succ_eq_append_getElem hj.1, hj.2]
  simp [outs]
theorem scan_count : ∀ (f : Nat) (p : Int) (xs : List Int), (scan f p xs).length ≤ f
  | 0, _, _ => Nat.le_refl _
  | f + 1, p, xs => by
    unfold scan
    split
    · have := scan_count f (p + 12 + nOf xs) (xs.drop (12 + (nOf xs).toNat))
      simp
      omega
    · simp
theorem scan_len : ∀ (f : Nat) (p : Int) (xs : List Int), ∀ it ∈ scan f p xs, it.2.2.length ≤ xs.length
  | 0, _, _, it, h => by cases h
  | f + 1, p, xs, it, h => by
    unfold scan at h
    split at h
    · rcases List.mem_cons.1 h with rfl | h
      · simp only [loadOf, List.length_take, List.length_drop]
        omega
      · have := scan_len f _ _ it h
        simp only [List.length_drop] at this
        omega
    · cases h
/-- The records that bytes begin with. -/
def records (xs : List Int) : List (List Int) × Int := recs (scan xs.length 0 xs) 0 (used xs.length 0 xs)
theorem scan_used : ∀ (f : Nat) (p : Int) (xs : List Int), Le.U8s xs → 0 ≤ p → p ≤ used f p xs ∧ used f p xs ≤ p + xs.length ∧ ∀ it ∈ scan f p xs, p ≤ it.1 ∧ it.1 ≤ p + xs.length
  | 0, p, xs, _, h => ⟨Int.le_refl _, by show p ≤ _; omega, fun it hi => by cases hi⟩
  | f + 1, p, xs, hu, h => by
    unfold used scan
    split
    · rename_i hf
      have h0 := nOf_nonneg xs hu
      have h1 := hf.1.2.2.2
      have h2 := hf.1.1
      obtain ⟨h3, h4, h5⟩ := scan_used f (p + 12 + nOf xs) (xs.drop (12 + (nOf xs).toNat)) (fun x hx => hu x (List.mem_of_mem_drop hx)) (by omega)
      rw [List.length_drop] at h4 h5
      refine ⟨by omega, by omega, fun it hi => ?_⟩
      rcases List.mem_cons.1 hi with rfl | hi
      · exact ⟨Int.le_refl _, by show p ≤ _; omega⟩
      · have := h5 it hi
        omega
    · exact ⟨Int.le_refl _, by omega, fun it hi => by cases hi⟩
theorem recs_used {l : List It} : ∀ {j : Nat} {u b : Int}, 0 ≤ u → u ≤ b → (∀ it ∈ l, 0 ≤ it.1 ∧ it.1 ≤ b) → 0 ≤ (recs l j u).2 ∧ (recs l j u).2 ≤ b := by
  induction l with
  | nil => intro j u b h0 h1 _; exact ⟨h0, h1⟩
  | cons it l ih =>
    intro j u b h0 h1 h
    unfold recs
    split
    · exact ih h0 h1 fun it hi => h it (List.mem_cons_of_mem _ hi)
    · exact h it List.mem_cons_self
theorem records_used {xs : List Int} (hu : Le.U8s xs) : 0 ≤ (records xs).2 ∧ (records xs).2 ≤ xs.length := by
  obtain ⟨h1, h2, h3⟩ := scan_used xs.length 0 xs hu (Int.le_refl 0)
  exact recs_used h1 (by omega) fun it hi => by have := h3 it hi; omega
theorem recs_count {l : List It} : ∀ {j : Nat} {u : Int}, (recs l j u).1.length ≤ l.length := by
  induction l with
  | nil => intro j u; exact Nat.le_refl _
  | cons it l ih =>
    intro j u
    unfold recs
    split
    · have := ih (j := j + 1) (u := u)
      simp
      omega
    · simp
theorem records_count (xs : List Int) : (records xs).1.length ≤ xs.length := Nat.le_trans recs_count (scan_count _ _ _)
theorem recs_len {l : List It} {b : Nat} : ∀ {j : Nat} {u : Int}, (∀ it ∈ l, it.2.2.length ≤ b) → ∀ x ∈ (recs l j u).1, x.length ≤ b := by
  induction l with
  | nil => intro j u _ x hx; cases hx
  | cons it l ih =>
    intro j u h x hx
    unfold recs at hx
    split at hx
    · rcases List.mem_cons.1 hx with rfl | hx
      · have := h it List.mem_cons_self
        rw [List.length_drop]
        omega
      · exact ih (fun it hi => h it (List.mem_cons_of_mem _ hi)) x hx
    · cases hx
theorem records_len (xs : List Int) : ∀ x ∈ (records xs).1, x.length ≤ xs.length := recs_len (scan_len _ _ _)
/-- A record's frame. -/
def frame (num : Int) (b : List Int) : List Int := Frm.frame 2 (Le.le 8 num ++ b)
theorem frame_length (num : Int) (b : List Int) : (frame num b).length = 20 + b.length := by
  unfold frame
  rw [Frm.frame_length, List.length_append, Le.le_length]
  omega
end Go.Proofs.Ytipmkddcdnbihaa.DiaryP
/- Plain facts about tapes: no program in sight. -/
namespace Go.Proofs.Ytipmkddcdnbihaa.TapeP
/-- The last byte's bits turned. -/
def turn (xs : List Int) (bits : Int) : List Int := xs.set (xs.length - 1) (Go.bits .xor .u8 (xs.getD (xs.length - 1) 0) bits)
theorem turn_length (xs : List Int) (bits : Int) : (turn xs bits).length = xs.length := by simp [turn]
/-- How many loose bytes a crash keeps. -/
def kept (keep : Int) (loose : Nat) : Nat := (min (max keep 0) (loose : Int)).toNat
theorem kept_le (keep : Int) (loose : Nat) : kept keep loose ≤ loose := by unfold kept; omega
/-- What is there behind a crash. -/
def crash (xs : List Int) (safe : Nat) (keep bits : Int) : List Int :=
  if 0 < kept keep (xs.length - safe) then turn (xs.take (safe + kept keep (xs.length - safe))) bits else xs.take (safe + kept keep (xs.length - safe))
theorem crash_length (xs : List Int) (safe : Nat) (keep bits : Int) (h : safe ≤ xs.length) : (crash xs safe keep bits).length = safe + kept keep (xs.length - safe) := by
  have := kept_le keep (xs.length - safe)
  unfold crash
  split
  · rw [turn_length, List.length_take, Nat.min_eq_left (by omega)]
  · rw [List.length_take, Nat.min_eq_left (by omega)]
theorem bits_u8 (a b : Int) : 0 ≤ Go.bits .xor .u8 a b ∧ Go.bits .xor .u8 a b < 256 := by
  have h := (BitVec.ofInt 8 a ^^^ BitVec.ofInt 8 b).isLt
  unfold Go.bits
  simp [IntKind.wrap, IntKind.bits, IntKind.signed]
  omega
end Go.Proofs.Ytipmkddcdnbihaa.TapeP
/- Plain facts: a burst of at most 32 bits turns the sum. No program in sight. -/
namespace Go.Proofs.Ytipmkddcdnbihaa.Burst
abbrev W := BitVec 32
def poly : W := 2197175160#32
def step (s : W) : W := if s.getLsbD 0 then (s >>> 1) ^^^ poly else s >>> 1
def stepN : Nat → W → W
  | 0, s => s
  | n + 1, s => stepN n (step s)
theorem step_xor (a b : W) : step (a ^^^ b) = step a ^^^ step b := by
  unfold step
  rw [BitVec.getLsbD_xor, BitVec.ushiftRight_xor_distrib]
  cases ha : a.getLsbD 0 <;> cases hb : b.getLsbD 0 <;> simp
  · rw [BitVec.xor_assoc]
  · rw [BitVec.xor_assoc, BitVec.xor_comm (b >>> 1), ← BitVec.xor_assoc]
  · rw [BitVec.xor_assoc, BitVec.xor_comm poly, BitVec.xor_assoc, BitVec.xor_self, BitVec.xor_zero]
theorem step_zero : step 0 = 0 := by decide
theorem stepN_xor (n : Nat) : ∀ a b : W, stepN n (a ^^^ b) = stepN n a ^^^ stepN n b := by
  induction n with
  | zero => intro a b; rfl
  | succ n ih => intro a b; show stepN n (step (a ^^^ b)) = _; rw [step_xor, ih]; rfl
theorem stepN_zero (n : Nat) : stepN n 0 = 0 := by
  induction n with
  | zero => rfl
  | succ n ih => show stepN n (step 0) = 0; rw [step_zero, ih]
/-- Nothing but nothing is sent to nothing. -/
theorem step_ne {s : W} (h : s ≠ 0) : step s ≠ 0 := by
  intro h0
  unfold step at h0
  split at h0
  · have h1 := congrArg (fun x : W => x.getLsbD 31) h0
    simp at h1
    have h2 : poly[31] = true := by decide
    rw [h1] at h2
    cases h2
  · rename_i hl
    apply h
    apply BitVec.eq_of_getLsbD_eq
    intro i hi
    rcases Nat.eq_zero_or_pos i with h1 | h1
    · subst h1; simpa using hl
    · have h2 := congrArg (fun x : W => x.getLsbD (i - 1)) h0
      simp only [BitVec.getLsbD_ushiftRight] at h2
      rw [show 1 + (i - 1) = i by omega] at h2
      simpa using h2
def one (b : Bool) : W := if b then 1 else 0
/-- Bit behind bit. -/
def serial (d : W) (l : List Bool) : W := l.foldl (fun d b => step (d ^^^ one b)) d
theorem serial_append (d : W) (a b : List Bool) : serial d (a ++ b) = serial (serial d a) b := by simp [serial]
theorem serial_ne (l : List Bool) (hl : ∀ b ∈ l, b = false) : ∀ {d : W}, d ≠ 0 → serial d l ≠ 0 := by
  induction l with
  | nil => intro d h; exact h
  | cons b l ih =>
    intro d h
    have hb := hl b List.mem_cons_self
    subst hb
    show serial (step (d ^^^ one false)) l ≠ 0
    refine ih (fun b hb => hl b (List.mem_cons_of_mem _ hb)) (step_ne ?_)
    simpa [one] using h
theorem serial_zero (l : List Bool) (hl : ∀ b ∈ l, b = false) : serial 0 l = 0 := by
  induction l with
  | nil => rfl
  | cons b l ih =>
    have hb := hl b List.mem_cons_self
    subst hb
    show serial (step (0 ^^^ one false)) l = 0
    rw [show step (0 ^^^ one false) = 0 by decide]
    exact ih fun b hb => hl b (List.mem_cons_of_mem _ hb)
theorem step_part (d x : W) : step (d ^^^ x) = step (d ^^^ one (x.getLsbD 0)) ^^^ (x >>> 1) := by
  cases hx : x.getLsbD 0
  · rw [step_xor]
    have h1 : step x = x >>> 1 := by unfold step; rw [hx]; rfl
    rw [h1]
    simp [one]
  · have h1 : x = 1#32 ^^^ (x ^^^ 1#32) := by rw [BitVec.xor_comm x, ← BitVec.xor_assoc, BitVec.xor_self, BitVec.zero_xor]
    have h2 : step (x ^^^ 1#32) = x >>> 1 := by
      have h3 : (x ^^^ 1#32).getLsbD 0 = false := by rw [BitVec.getLsbD_xor, hx]; decide
      unfold step
      rw [h3, BitVec.ushiftRight_xor_distrib]
      have h4 : (1#32 >>> 1 : W) = 0#32 := by decide
      rw [h4]
      simp
    conv => lhs; rw [h1, ← BitVec.xor_assoc, step_xor, h2]
    rfl
theorem stepN_serial (n : Nat) : ∀ (d x : W), (∀ i, n ≤ i → x.getLsbD i = false) → stepN n (d ^^^ x) = serial d ((List.range n).map fun i => x.getLsbD i) := by
  induction n with
  | zero =>
    intro d x h
    have : x = 0 := by
      apply BitVec.eq_of_getLsbD_eq
      intro i _
      rw [h i (Nat.zero_le _)]
      simp
    subst this
    simp [stepN, serial]
  | succ n ih =>
    intro d x h
    show stepN n (step (d ^^^ x)) = _
    rw [step_part, ih _ _ (fun i hi => by rw [BitVec.getLsbD_ushiftRight]; exact h _ (by omega)), List.range_succ_eq_map, List.map_cons, List.map_map]
    show _ = serial (step (d ^^^ one (x.getLsbD 0))) _
    congr 1
    apply List.map_congr_left
    intro i _
    simp [BitVec.getLsbD_ushiftRight, Nat.add_comm]
/-- Bytes. -/
def byte (s : W) (c : Nat) : W := stepN 8 (s ^^^ BitVec.ofNat 32 c)
def run (s : W) (l : List Nat) : W := l.foldl byte s
def bits8 (c : Nat) : List Bool := (List.range 8).map fun i => c.testBit i
theorem byte_serial (s : W) (c : Nat) (h : c < 256) : byte s c = serial s (bits8 c) := by
  unfold byte bits8
  rw [stepN_serial]
  · congr 1
    apply List.map_congr_left
    intro i hi
    have := List.mem_range.1 hi
    rw [BitVec.getLsbD_ofNat]
    simp
    omega
  · intro i hi
    rw [BitVec.getLsbD_ofNat]
    have : c.testBit i = false := Nat.testBit_lt_two_pow (Nat.lt_of_lt_of_le (show c < 2 ^ 8 from h) (Nat.pow_le_pow_right (by omega) hi))
    simp [this]
theorem run_serial (l : List Nat) (h : ∀ c ∈ l, c < 256) : ∀ s, run s l = serial s (l.flatMap bits8) := by
  induction l with
  | nil => intro s; rfl
  | cons c l ih =>
    intro s
    show run (byte s c) l = _
    rw [ih (fun x hx => h x (List.mem_cons_of_mem _ hx)), byte_serial s c (h c List.mem_cons_self), List.flatMap_cons, serial_append]
theorem ofNat_xor (a b : Nat) : BitVec.ofNat 32 (a ^^^ b) = BitVec.ofNat 32 a ^^^ BitVec.ofNat 32 b := by
  apply BitVec.eq_of_getLsbD_eq
  intro i _
  simp only [BitVec.getLsbD_ofNat, BitVec.getLsbD_xor, Nat.testBit_xor]
  cases decide (i < 32) <;> simp
theorem run_xor : ∀ (l e : List Nat), e.length = l.length → ∀ s d, run (s ^^^ d) (List.zipWith (· ^^^ ·) l e) = run s l ^^^ run d e
  | [], [], _, s, d => rfl
  | c :: l, x :: e, h, s, d => by
    show run (byte (s ^^^ d) (c ^^^ x)) _ = run (byte s c) l ^^^ run (byte d x) e
    have h1 : byte (s ^^^ d) (c ^^^ x) = byte s c ^^^ byte d x := by
      unfold byte
      rw [ofNat_xor, ← stepN_xor]
      congr 1
      rw [BitVec.xor_assoc, BitVec.xor_assoc]
      congr 1
      rw [← BitVec.xor_assoc, BitVec.xor_comm d, BitVec.xor_assoc]
    rw [h1]
    exact run_xor l e (by simpa using h) _ _

theorem stepN_ne (n : Nat) : ∀ {s : W}, s ≠ 0 → stepN n s ≠ 0 := by
  induction n with
  | zero => intro s h; exact h
  | succ n ih => intro s h; exact ih (step_ne h)
theorem flat_bits : ∀ (E : List Nat), E.flatMap bits8 = (List.range (8 * E.length)).map fun t => (E.getD (t / 8) 0).testBit (t % 8)
  | [] => rfl
  | c :: E => by
    rw [List.flatMap_cons, flat_bits E, List.length_cons, show 8 * (E.length + 1) = 8 + 8 * E.length by omega, List.range_add, List.map_append, List.map_map]
    have happ : ∀ {a b c d : List Bool}, a = c → b = d → a ++ b = c ++ d := by intro a b c d h1 h2; rw [h1, h2]
    refine happ ?_ ?_
    · apply List.map_congr_left
      intro i hi
      have := List.mem_range.1 hi
      have h1 : i / 8 = 0 := by omega
      have h2 : i % 8 = i := by omega
      simp [h1, h2]
    · apply List.map_congr_left
      intro i _
      have h1 : (8 + i) / 8 = i / 8 + 1 := by omega
      have h2 : (8 + i) % 8 = i % 8 := by omega
      simp [h1, h2]
/-- A burst of at most 32 bits is not sent to nothing. -/
theorem burst (L f : Nat) (E : List Nat) (hE : ∀ c ∈ E, c < 256) (hl : E.length = L) (bits : W) (hb : bits ≠ 0) (hf : f + 32 ≤ 8 * L)
    (hs : ∀ t, t < 8 * L → (E.getD (t / 8) 0).testBit (t % 8) = (decide (f ≤ t ∧ t < f + 32) && bits.getLsbD (t - f))) : run 0 E ≠ 0 := by
  rw [run_serial E hE, flat_bits, hl]
  have h1 : ((List.range (8 * L)).map fun t => (E.getD (t / 8) 0).testBit (t % 8)) = (List.range (8 * L)).map fun t => (decide (f ≤ t ∧ t < f + 32) && bits.getLsbD (t - f)) :=
    List.map_congr_left fun t ht => hs t (List.mem_range.1 ht)
  rw [h1, show 8 * L = f + (32 + (8 * L - f - 32)) by omega, List.range_add, List.range_add, List.map_append, List.map_map, List.map_append, List.map_map, serial_append, serial_append]
  rw [serial_zero _ (by
    intro b hb'
    obtain ⟨t, ht, rfl⟩ := List.mem_map.1 hb'
    have := List.mem_range.1 ht
    have h2 : ¬ (f ≤ t ∧ t < f + 32) := by omega
    simp [h2])]
  apply serial_ne
  · intro b hb'
    obtain ⟨t, _, rfl⟩ := List.mem_map.1 hb'
    have h2 : ¬ (f ≤ f + (32 + t) ∧ f + (32 + t) < f + 32) := by omega
    simp only [Function.comp, h2, decide_false, Bool.false_and]
  · have h3 : ((List.range 32).map ((fun t => decide (f ≤ t ∧ t < f + 32) && bits.getLsbD (t - f)) ∘ fun x => f + x)) = (List.range 32).map fun i => bits.getLsbD i := by
      apply List.map_congr_left
      intro i hi
      have := List.mem_range.1 hi
      have h4 : f ≤ f + i ∧ f + i < f + 32 := by omega
      simp only [Function.comp, h4, and_self, decide_true, Bool.true_and, Nat.add_sub_cancel_left]
    rw [h3, ← stepN_serial 32 0 bits (fun i hi => BitVec.getLsbD_of_ge _ _ hi)]
    exact stepN_ne 32 (by simpa using hb)
/-! The sum of Crc is this one. -/
theorem bit_step (s : W) : Crc.bit (s.toNat : Int) = ((step s).toNat : Int) := by
  have hs := s.isLt
  have h0 : s.getLsbD 0 = decide (s.toNat % 2 = 1) := by rw [BitVec.getLsbD, Nat.testBit_zero]
  have h1 : (s >>> 1).toNat = s.toNat / 2 := by simp [BitVec.toNat_ushiftRight, Nat.shiftRight_eq_div_pow]
  unfold Crc.bit step
  by_cases h : s.toNat % 2 = 1
  · rw [if_pos (by omega), h0, if_pos (by simpa using h), BitVec.toNat_xor, h1]
    rw [show ((s.toNat : Int) / 2) = ((s.toNat / 2 : Nat) : Int) by omega, show (2197175160 : Int) = ((2197175160 : Nat) : Int) by rfl, u32_xor_nat _ _ (by omega) (by omega)]
    rfl
  · rw [if_neg (by omega), h0, if_neg (by simpa using h), h1]
    omega
theorem bitsN_stepN (n : Nat) : ∀ s : W, Crc.bitsN n (s.toNat : Int) = ((stepN n s).toNat : Int) := by
  induction n with
  | zero => intro s; rfl
  | succ n ih => intro s; show Crc.bitsN n (Crc.bit s.toNat) = _; rw [bit_step, ih]; rfl
theorem byte_byte (s : W) (c : Nat) (hc : c < 256) : Crc.byte (s.toNat : Int) (c : Int) = ((byte s c).toNat : Int) := by
  unfold Crc.byte byte
  rw [u32_xor_nat _ _ (by have := s.isLt; omega) (by omega), ← bitsN_stepN, BitVec.toNat_xor, BitVec.toNat_ofNat, Nat.mod_eq_of_lt (by omega)]
theorem run_run : ∀ (l : List Nat) (s : W), (∀ c ∈ l, c < 256) → Crc.run (s.toNat : Int) (l.map fun c : Nat => (c : Int)) = ((run s l).toNat : Int)
  | [], _, _ => rfl
  | c :: l, s, h => by
    show Crc.run (Crc.byte s.toNat c) (l.map _) = _
    rw [byte_byte s c (h c List.mem_cons_self), run_run l _ fun x hx => h x (List.mem_cons_of_mem _ hx)]
    rfl
/-- Bytes that differ from others by such a burst have another sum. -/
theorem sum_ne (h l E : List Nat) (hh : ∀ c ∈ h, c < 256) (hl : ∀ c ∈ l, c < 256) (hE : ∀ c ∈ E, c < 256) (hlen : E.length = l.length) (f : Nat) (bits : W) (hb : bits ≠ 0) (hf : f + 32 ≤ 8 * l.length)
    (hs : ∀ t, t < 8 * l.length → (E.getD (t / 8) 0).testBit (t % 8) = (decide (f ≤ t ∧ t < f + 32) && bits.getLsbD (t - f))) (hx : ∀ c ∈ List.zipWith (· ^^^ ·) l E, c < 256) :
    Crc.sum ((h.map fun c : Nat => (c : Int)) ++ ((List.zipWith (· ^^^ ·) l E).map fun c : Nat => (c : Int))) ≠ Crc.sum ((h.map fun c : Nat => (c : Int)) ++ (l.map fun c : Nat => (c : Int))) := by
  have hburst := burst l.length f E hE hlen bits hb hf hs
  have e0 : (4294967295 - 0 : Int) = ((BitVec.allOnes 32).toNat : Int) := by decide
  unfold Crc.sum Crc.sumOn
  rw [Crc.run_append, Crc.run_append, e0, run_run h _ hh, run_run l _ hl, run_run _ _ hx]
  intro he
  have h1 := run_xor l E hlen (run (BitVec.allOnes 32) h) (0#32)
  rw [BitVec.xor_zero] at h1
  rw [h1] at he
  apply hburst
  have h2 : (run (run (BitVec.allOnes 32) h) l ^^^ run (0#32) E).toNat = (run (run (BitVec.allOnes 32) h) l).toNat := by omega
  have h3 := BitVec.eq_of_toNat_eq h2
  have h4 := congrArg (fun x => run (run (BitVec.allOnes 32) h) l ^^^ x) h3
  simp only [← BitVec.xor_assoc, BitVec.xor_self, BitVec.zero_xor] at h4
  exact h4
end Go.Proofs.Ytipmkddcdnbihaa.Burst
/- Plain facts: the bits of a frame's load that a pattern turns, one behind the other; what comes of it does not open. No program in sight. -/
namespace Go.Proofs.Ytipmkddcdnbihaa.Flip
open Le (of le)
open Frm
def zip (l E : List Nat) : List Int := (List.zipWith (· ^^^ ·) l E).map fun c : Nat => (c : Int)
structure Ok (l : List Nat) (fr bits k : Nat) (E : List Nat) : Prop where
  len : E.length = l.length
  u8 : ∀ c ∈ E, c < 256
  bit : ∀ t, t < 8 * l.length → (E.getD (t / 8) 0).testBit (t % 8) = (decide (fr ≤ t ∧ t < fr + k) && bits.testBit (t - fr))
theorem zip_length {l E : List Nat} (h : E.length = l.length) : (zip l E).length = l.length := by simp [zip, h]
theorem ok_zero (l : List Nat) (fr bits : Nat) : Ok l fr bits 0 (List.replicate l.length 0) := by
  refine ⟨by simp, fun c hc => by rw [(List.mem_replicate.1 hc).2]; omega, fun t ht => ?_⟩
  have h1 : ¬ (fr ≤ t ∧ t < fr + 0) := by omega
  have h2 : (List.replicate l.length 0).getD (t / 8) 0 = 0 := by
    rw [List.getD_eq_getElem?_getD, List.getElem?_replicate]; split <;> rfl
  rw [h2, decide_eq_false h1]
  simp
theorem zip_zero (l : List Nat) : zip l (List.replicate l.length 0) = l.map fun c : Nat => (c : Int) := by
  have : List.zipWith (· ^^^ ·) l (List.replicate l.length 0) = l := by
    induction l with
    | nil => rfl
    | cons c l ih => rw [List.length_cons, List.replicate_succ, List.zipWith_cons_cons, ih]; simp
  rw [zip, this]
theorem ok_skip {l E : List Nat} {fr bits k : Nat} (h : Ok l fr bits k E) (hb : bits.testBit k = false) : Ok l fr bits (k + 1) E := by
  refine ⟨h.len, h.u8, fun t ht => (h.bit t ht).trans ?_⟩
  by_cases h1 : t = fr + k
  · subst h1
    rw [Nat.add_sub_cancel_left, hb, Bool.and_false, Bool.and_false]
  · have : (fr ≤ t ∧ t < fr + k) ↔ (fr ≤ t ∧ t < fr + (k + 1)) := by omega
    simp only [this]
theorem ok_flip {l E : List Nat} {fr bits k : Nat} (h : Ok l fr bits k E) (hb : bits.testBit k = true) (hk : fr + k < 8 * l.length) : Ok l fr bits (k + 1) (E.set ((fr + k) / 8) (E.getD ((fr + k) / 8) 0 ^^^ 2 ^ ((fr + k) % 8))) := by
  have hq : (fr + k) / 8 < E.length := by rw [h.len]; omega
  have hlt : E.getD ((fr + k) / 8) 0 < 256 := by
    rw [List.getD_eq_getElem?_getD, List.getElem?_eq_getElem hq]
    exact h.u8 _ (List.getElem_mem _)
  have hp : 2 ^ ((fr + k) % 8) < 256 := Nat.lt_of_lt_of_le (Nat.pow_lt_pow_right (by omega) (show (fr + k) % 8 < 8 by omega)) (by decide)
  refine ⟨by simp [h.len], fun c hc => ?_, fun t ht => ?_⟩
  · rcases List.mem_or_eq_of_mem_set hc with h1 | rfl
    · exact h.u8 c h1
    · exact Nat.xor_lt_two_pow (n := 8) hlt hp
  · by_cases h1 : t / 8 = (fr + k) / 8
    · have e : (E.set ((fr + k) / 8) (E.getD ((fr + k) / 8) 0 ^^^ 2 ^ ((fr + k) % 8))).getD (t / 8) 0 = E.getD ((fr + k) / 8) 0 ^^^ 2 ^ ((fr + k) % 8) := by
        rw [h1, List.getD_eq_getElem?_getD, List.getElem?_set_self hq]; rfl
      have hbit := h.bit t ht
      rw [h1] at hbit
      rw [e, Nat.testBit_xor, hbit, Nat.testBit_two_pow]
      by_cases h2 : t = fr + k
      · subst h2
        have h3 : ¬ (fr ≤ fr + k ∧ fr + k < fr + k) := by omega
        have h4 : fr ≤ fr + k ∧ fr + k < fr + (k + 1) := by omega
        rw [decide_eq_false h3, decide_eq_true h4, Nat.add_sub_cancel_left, hb]
        simp
      · have h3 : ¬ ((fr + k) % 8 = t % 8) := by omega
        have : (fr ≤ t ∧ t < fr + k) ↔ (fr ≤ t ∧ t < fr + (k + 1)) := by omega
        rw [decide_eq_false h3]
        simp only [this, Bool.xor_false]
    · have e : (E.set ((fr + k) / 8) (E.getD ((fr + k) / 8) 0 ^^^ 2 ^ ((fr + k) % 8))).getD (t / 8) 0 = E.getD (t / 8) 0 := by
        rw [List.getD_eq_getElem?_getD, List.getElem?_set_ne (by omega), ← List.getD_eq_getElem?_getD]
      rw [e, h.bit t ht]
      have : (fr ≤ t ∧ t < fr + k) ↔ (fr ≤ t ∧ t < fr + (k + 1)) := by
        have : t ≠ fr + k := fun h => h1 (by rw [h])
        omega
      simp only [this]
theorem zip_get : ∀ {l E : List Nat} {q : Nat}, E.length = l.length → q < l.length → (zip l E).getD q 0 = ((l.getD q 0 ^^^ E.getD q 0 : Nat) : Int)
  | c :: l, x :: E, 0, _, _ => rfl
  | c :: l, x :: E, q + 1, h, hq => zip_get (l := l) (E := E) (q := q) (by simpa using h) (by simpa using hq)
theorem zip_set : ∀ {l E : List Nat} {q b : Nat}, E.length = l.length → q < l.length → zip l (E.set q (E.getD q 0 ^^^ b)) = (zip l E).set q (((l.getD q 0 ^^^ E.getD q 0) ^^^ b : Nat) : Int)
  | c :: l, x :: E, 0, b, _, _ => by simp [zip, Nat.xor_assoc]
  | c :: l, x :: E, q + 1, b, h, hq => by
    have := zip_set (l := l) (E := E) (q := q) (b := b) (by simpa using h) (by simpa using hq)
    simpa [zip] using this
theorem zip_u8 {l E : List Nat} (hl : ∀ c ∈ l, c < 256) (hE : ∀ c ∈ E, c < 256) : ∀ c ∈ List.zipWith (· ^^^ ·) l E, c < 256 := by
  intro c hc
  rw [List.zipWith_eq_zipWith_take_min] at hc
  obtain ⟨i, hi, rfl⟩ := List.getElem_of_mem hc
  rw [List.getElem_zipWith]
  exact Nat.xor_lt_two_pow (n := 8) (hl _ (List.mem_of_mem_take (List.getElem_mem _))) (hE _ (List.mem_of_mem_take (List.getElem_mem _)))
/-- What a frame's head says of what follows. -/
theorem parts (kind s : Int) (b : List Int) (hl : b.length ≤ 65536) (hs0 : 0 ≤ s) (hs1 : s < 4294967296) :
    form (head kind b.length ++ le 4 s ++ b) ∧ (head kind b.length ++ le 4 s ++ b).take 8 = head kind b.length ∧ loadOf (head kind b.length ++ le 4 s ++ b) = b ∧ sOf (head kind b.length ++ le 4 s ++ b) = s := by
  generalize hX : head kind b.length ++ le 4 s ++ b = X
  have e : X = le 2 53021 ++ (le 2 kind ++ (le 4 b.length ++ (le 4 s ++ b))) := by rw [← hX]; simp [head]
  have e1 : mOf X = 53021 := by rw [e, mOf, take_app (Le.le_length _ _)]; rfl
  have d2 : X.drop 2 = le 2 kind ++ (le 4 b.length ++ (le 4 s ++ b)) := by rw [e, drop_app (Le.le_length _ _)]
  have d4 : X.drop 4 = le 4 b.length ++ (le 4 s ++ b) := by rw [show (4 : Nat) = 2 + 2 from rfl, ← List.drop_drop, d2, drop_app (Le.le_length _ _)]
  have d8 : X.drop 8 = le 4 s ++ b := by rw [show (8 : Nat) = 4 + 4 from rfl, ← List.drop_drop, d4, drop_app (Le.le_length _ _)]
  have d12 : X.drop 12 = b := by rw [show (12 : Nat) = 8 + 4 from rfl, ← List.drop_drop, d8, drop_app (Le.le_length _ _)]
  have e3 : nOf X = b.length := by rw [nOf, d4, take_app (Le.le_length _ _), Le.of_le_lt _ _ (by omega) (by omega)]
  have e4 : sOf X = s := by rw [sOf, d8, take_app (Le.le_length _ _), Le.of_le_lt _ _ hs0 hs1]
  have e5 : loadOf X = b := by rw [loadOf, e3, d12, Int.toNat_natCast, List.take_length]
  have e6 : X.take 8 = head kind b.length := by rw [← hX, List.append_assoc]; exact take_app (Frm.head_length _ _)
  have e7 : X.length = 12 + b.length := by rw [← hX]; simp [Frm.head_length, Le.le_length]; omega
  exact ⟨⟨by omega, e1, by rw [e3]; omega, by rw [e3, e7]; omega⟩, e6, e5, e4⟩
theorem nat_list (xs : List Int) (h : Le.U8s xs) : (xs.map Int.toNat).map (fun c : Nat => (c : Int)) = xs ∧ ∀ c ∈ xs.map Int.toNat, c < 256 := by
  constructor
  · rw [List.map_map]
    conv => rhs; rw [← List.map_id xs]
    apply List.map_congr_left
    intro x hx
    have := h x hx
    simp only [Function.comp, id]
    omega
  · intro c hc
    obtain ⟨x, hx, rfl⟩ := List.mem_map.1 hc
    have := h x hx
    omega
/-- The turned frame has the form of one, and a sum that is not its own. -/
theorem ends (kind : Int) (l E : List Nat) (hl : ∀ c ∈ l, c < 256) (fr bits : Nat) (h : Ok l fr bits 32 E) (hb0 : bits ≠ 0) (hb1 : bits < 4294967296) (hf : fr + 32 ≤ 8 * l.length) (hn : l.length ≤ 65536) :
    form (head kind l.length ++ le 4 (Crc.sum (head kind l.length ++ l.map fun c : Nat => (c : Int))) ++ zip l E) ∧ ¬ good (head kind l.length ++ le 4 (Crc.sum (head kind l.length ++ l.map fun c : Nat => (c : Int))) ++ zip l E) := by
  have hs := Crc.sum_u32 (head kind l.length ++ l.map fun c : Nat => (c : Int))
  have hz := zip_length h.len
  have hp := parts kind (Crc.sum (head kind l.length ++ l.map fun c : Nat => (c : Int))) (zip l E) (by omega) hs.1 hs.2
  rw [hz] at hp
  obtain ⟨h1, h2, h3, h4⟩ := hp
  refine ⟨h1, fun hg => ?_⟩
  rw [good, h2, h3, h4] at hg
  obtain ⟨e1, e2⟩ := nat_list (head kind l.length) (Frm.head_u8 _ _)
  rw [← e1] at hg
  refine Burst.sum_ne _ l E e2 hl h.u8 h.len fr (BitVec.ofNat 32 bits) ?_ hf ?_ (zip_u8 hl h.u8) hg
  · intro h0
    have := congrArg BitVec.toNat h0
    rw [BitVec.toNat_ofNat, Nat.mod_eq_of_lt (by omega)] at this
    exact hb0 this
  · intro t ht
    rw [h.bit t ht]
    by_cases h5 : fr ≤ t ∧ t < fr + 32
    · rw [BitVec.getLsbD_ofNat, decide_eq_true (show t - fr < 32 by omega), Bool.true_and]
    · rw [decide_eq_false h5]; rfl
end Go.Proofs.Ytipmkddcdnbihaa.Flip
/- Plain facts: what a diary's bytes say behind a crash: no program in sight. -/
namespace Go.Proofs.Ytipmkddcdnbihaa.DiaryKeepsP
open Frm hiding frame frame_length
open DiaryP
open TapeP (turn crash kept)
/-- The frames of records, numbered from j + 1 on. -/
def frames : Nat → List (List Int) → List Int
  | _, [] => []
  | j, r :: rs => frame ((j : Int) + 1) r ++ frames (j + 1) rs
def items : Nat → Int → List (List Int) → List It
  | _, _, [] => []
  | j, p, r :: rs => (p, 2, Le.le 8 ((j : Int) + 1) ++ r) :: items (j + 1) (p + 20 + r.length) rs
def Fine (r : List Int) : Prop := Le.U8s r ∧ r.length ≤ 60000
theorem load_u8 {r : List Int} (h : Fine r) (n : Int) : Le.U8s (Le.le 8 n ++ r) := fun x hx => (List.mem_append.1 hx).elim (Le.le_u8 8 n x) (h.1 x)
theorem load_length (r : List Int) (n : Int) : (Le.le 8 n ++ r).length = 8 + r.length := by rw [List.length_append, Le.le_length]
theorem scan_frames : ∀ (rs : List (List Int)) (j f : Nat) (p : Int) (T : List Int), (∀ r ∈ rs, Fine r) → ¬ (form T ∧ good T) → (frames j rs ++ T).length ≤ f →
    scan f p (frames j rs ++ T) = items j p rs ∧ used f p (frames j rs ++ T) = p + (frames j rs).length
  | [], j, f, p, T, _, hT, _ => by
    have := scan_stop (f := f) (p := p) hT
    simp only [frames, List.nil_append, items, List.length_nil]
    exact ⟨this.1, by rw [this.2]; omega⟩
  | r :: rs, j, f, p, T, hr, hT, hl => by
    have hf := hr r List.mem_cons_self
    have hlen := load_length r ((j : Int) + 1)
    have hxl := frame_length ((j : Int) + 1) r
    obtain ⟨o1, o2, o3, o4, o5⟩ := open_frame 2 (Le.le 8 ((j : Int) + 1) ++ r) (frames (j + 1) rs ++ T) (by omega) (by omega) (load_u8 hf _) (by have := hf.2; omega)
    have e : frames j (r :: rs) ++ T = Frm.frame 2 (Le.le 8 ((j : Int) + 1) ++ r) ++ (frames (j + 1) rs ++ T) := by simp [frames, frame]
    rw [e] at hl ⊢
    obtain ⟨g, rfl, s1, s2, s3⟩ := scan_go (p := p) ⟨o1, o2⟩ hl
    have hn : (nOf (Frm.frame 2 (Le.le 8 ((j : Int) + 1) ++ r) ++ (frames (j + 1) rs ++ T))).toNat = 8 + r.length := by rw [o4, hlen]; omega
    have hd : (Frm.frame 2 (Le.le 8 ((j : Int) + 1) ++ r) ++ (frames (j + 1) rs ++ T)).drop (12 + (8 + r.length)) = frames (j + 1) rs ++ T := drop_app (by have h3 : (Frm.frame 2 (Le.le 8 ((j : Int) + 1) ++ r)).length = 20 + r.length := hxl; omega)
    rw [hn, hd] at s1 s2 s3
    rw [o4, hlen] at s1 s2
    have ih := scan_frames rs (j + 1) g (p + 12 + ((8 + r.length : Nat) : Int)) T (fun x hx => hr x (List.mem_cons_of_mem _ hx)) hT s3
    rw [s1, s2, ih.1, ih.2, o3, o5]
    have hp : p + 12 + ((8 + r.length : Nat) : Int) = p + 20 + r.length := by omega
    rw [hp]
    refine ⟨rfl, ?_⟩
    simp only [frames, List.length_append, hxl]
    omega
theorem recs_items : ∀ (rs : List (List Int)) (j : Nat) (p u : Int), (∀ r ∈ rs, Fine r) → j + rs.length < 4294967296 → recs (items j p rs) j u = (rs, u)
  | [], _, _, _, _, _ => rfl
  | r :: rs, j, p, u, hr, hj => by
    have hf := hr r List.mem_cons_self
    have hlen := load_length r ((j : Int) + 1)
    simp only [List.length_cons] at hj
    have ih := recs_items rs (j + 1) (p + 20 + r.length) u (fun x hx => hr x (List.mem_cons_of_mem _ hx)) (by omega)
    simp only [items, recs]
    have ht : (Le.le 8 ((j : Int) + 1) ++ r).take 8 = Le.le 8 ((j : Int) + 1) := take_app (Le.le_length _ _)
    have hd : (Le.le 8 ((j : Int) + 1) ++ r).drop 8 = r := drop_app (Le.le_length _ _)
    rw [if_pos ⟨rfl, by dsimp only; omega, by have := hf.2; dsimp only; omega, by dsimp only; rw [ht, Le.of_le_lt _ _ (by omega) (by omega)]⟩, ih, hd]
/-- Frames, and behind them something that is none. -/
theorem records_frames (rs : List (List Int)) (T : List Int) (hr : ∀ r ∈ rs, Fine r) (hT : ¬ (form T ∧ good T)) (hn : rs.length < 4294967296) : records (frames 0 rs ++ T) = (rs, ((frames 0 rs).length : Int)) := by
  obtain ⟨h1, h2⟩ := scan_frames rs 0 (frames 0 rs ++ T).length 0 T hr hT (Nat.le_refl _)
  unfold records
  rw [h1, h2, recs_items rs 0 0 _ hr (by omega), Int.zero_add]
theorem frames_append (a b : List (List Int)) : ∀ j, frames j (a ++ b) = frames j a ++ frames (j + a.length) b := by
  induction a with
  | nil => intro j; simp [frames]
  | cons r a ih => intro j; simp only [List.cons_append, frames, ih (j + 1), List.length_cons, List.append_assoc]; rw [show j + 1 + a.length = j + (a.length + 1) by omega]
theorem len_succ {rs : List (List Int)} {q : Nat} {r : List Int} (h : rs[q]? = some r) : (frames 0 (rs.take (q + 1))).length = (frames 0 (rs.take q)).length + (20 + r.length) := by
  have hq := List.getElem?_eq_some_iff.1 h
  rw [List.take_succ_eq_append_getElem hq.1, hq.2, frames_append, List.length_append]
  simp only [frames, List.append_nil]
  rw [frame_length]
theorem len_mono {rs : List (List Int)} {a b : Nat} (h : a ≤ b) : (frames 0 (rs.take a)).length ≤ (frames 0 (rs.take b)).length := by
  have e : rs.take b = rs.take a ++ (rs.take b).drop a := by
    have := List.take_append_drop a (rs.take b)
    rw [List.take_take, Nat.min_eq_left h] at this
    exact this.symm
  rw [e, frames_append, List.length_append]
  omega
theorem take_frames : ∀ (rs : List (List Int)) (j N : Nat), N ≤ (frames j rs).length → ∃ (q : Nat) (T : List Int), q ≤ rs.length ∧ (frames j rs).take N = frames j (rs.take q) ++ T ∧ (T = [] ∨ ∃ r t, rs[q]? = some r ∧ T = (frame (((j + q : Nat) : Int) + 1) r).take t ∧ 0 < t ∧ t < 20 + r.length)
  | [], j, N, h => ⟨0, [], Nat.le_refl _, by simp [frames], .inl rfl⟩
  | r :: rs, j, N, h => by
    have hl := frame_length ((j : Int) + 1) r
    by_cases h0 : N = 0
    · subst h0
      exact ⟨0, [], Nat.zero_le _, by simp [frames], .inl rfl⟩
    · by_cases hN : N < 20 + r.length
      · refine ⟨0, (frame ((j : Int) + 1) r).take N, Nat.zero_le _, ?_, .inr ⟨r, N, rfl, by simp, by omega, hN⟩⟩
        simp only [frames, List.take_zero, List.nil_append]
        rw [List.take_append_of_le_length (by omega)]
      · have hN2 : N - (20 + r.length) ≤ (frames (j + 1) rs).length := by
          simp only [frames, List.length_append, hl] at h
          omega
        obtain ⟨q, T, h1, h2, h3⟩ := take_frames rs (j + 1) (N - (20 + r.length)) hN2
        refine ⟨q + 1, T, by simp; omega, ?_, ?_⟩
        · simp only [frames, List.take_succ_cons, List.append_assoc]
          rw [← h2, List.take_append, hl, List.take_of_length_le (by omega)]
        · rcases h3 with h3 | ⟨r2, t, h4, h5, h6, h7⟩
          · exact .inl h3
          · exact .inr ⟨r2, t, by simpa using h4, by rw [h5, show j + 1 + q = j + (q + 1) by omega], h6, h7⟩
theorem turn_append (P T : List Int) (bits : Int) (h : T ≠ []) : turn (P ++ T) bits = P ++ turn T bits := by
  have hT : 0 < T.length := List.length_pos_iff.2 h
  have e : (P ++ T).length - 1 = P.length + (T.length - 1) := by rw [List.length_append]; omega
  unfold turn
  rw [e, List.set_append_right _ _ (by omega), List.getD_eq_getElem?_getD, List.getElem?_append_right (by omega), List.getD_eq_getElem?_getD]
  simp
theorem torn_form {n : Int} {r : List Int} (hr : Fine r) {t : Nat} (h1 : t < 20 + r.length) (bits : Int) : ¬ form (turn ((frame n r).take t) bits) := by
  intro hf
  have hl := frame_length n r
  have hb := load_length r n
  have htl : (turn ((frame n r).take t) bits).length = t := by rw [TapeP.turn_length, List.length_take]; omega
  have h12 := hf.1
  have hn := hf.2.2.2
  rw [htl] at h12 hn
  have e8 : (turn ((frame n r).take t) bits).take 8 = (frame n r).take 8 := by
    unfold turn
    rw [List.take_set_of_le (by rw [List.length_take]; omega), List.take_take, Nat.min_eq_left (by omega)]
  have en : ∀ xs : List Int, nOf xs = Le.of ((xs.take 8).drop 4) := fun xs => by
    unfold nOf
    rw [List.drop_take]
  obtain ⟨_, _, _, o4, _⟩ := open_frame 2 (Le.le 8 n ++ r) [] (by omega) (by omega) (load_u8 hr n) (by have := hr.2; omega)
  rw [List.append_nil] at o4
  have o4' : nOf (frame n r) = ((Le.le 8 n ++ r).length : Int) := o4
  rw [en, e8, ← en, o4', hb] at hn
  omega
theorem bits_zero {b : List Int} (h : Le.U8s b) : turn b 0 = b := by
  unfold turn
  rcases Nat.eq_zero_or_pos b.length with h0 | h0
  · rw [List.eq_nil_of_length_eq_zero h0]; rfl
  · have hi : b.length - 1 < b.length := by omega
    have hx := h b[b.length - 1] (List.getElem_mem hi)
    rw [List.getD_eq_getElem?_getD, List.getElem?_eq_getElem hi]
    show b.set (b.length - 1) (Go.bits .xor .u8 b[b.length - 1] 0) = b
    obtain ⟨x, hX⟩ := Int.eq_ofNat_of_zero_le hx.1
    have : Go.bits .xor .u8 b[b.length - 1] 0 = b[b.length - 1] := by
      rw [hX]
      have := u8_xor_nat x 0 (by omega) (by omega)
      simpa using this
    rw [this, List.set_getElem_self]
/-- A whole frame, bits of its last byte turned: as it was, or not good. -/
theorem turned {n : Int} {r : List Int} (hr : Fine r) {bits : Int} (h0 : 0 ≤ bits) (h1 : bits < 256) : turn (frame n r) bits = frame n r ∨ ¬ good (turn (frame n r) bits) := by
  obtain ⟨B, rfl⟩ := Int.eq_ofNat_of_zero_le h0
  by_cases hB : B = 0
  · subst hB
    exact .inl (bits_zero (Frm.frame_u8 2 _ (load_u8 hr n)))
  · right
    have hb := load_u8 hr n
    have hl := load_length r n
    obtain ⟨e1, e2⟩ := Flip.nat_list (Le.le 8 n ++ r) hb
    obtain ⟨l, hL⟩ : ∃ l, l = (Le.le 8 n ++ r).map Int.toNat := ⟨_, rfl⟩
    rw [← hL] at e1 e2
    have hll : l.length = 8 + r.length := by rw [hL, List.length_map, hl]
    have hE : Flip.Ok l (8 * l.length - 32) (B <<< 24) 32 ((List.replicate l.length 0).set (l.length - 1) ((List.replicate l.length 0).getD (l.length - 1) 0 ^^^ B)) := by
      have hg : (List.replicate l.length 0).getD (l.length - 1) 0 = 0 := by
        rw [List.getD_eq_getElem?_getD, List.getElem?_replicate]
        split <;> rfl
      rw [hg, Nat.zero_xor]
      refine ⟨by simp, fun c hc => ?_, fun t ht => ?_⟩
      · rcases List.mem_or_eq_of_mem_set hc with h | h
        · rw [(List.mem_replicate.1 h).2]; omega
        · rw [h]; omega
      · by_cases h8 : t / 8 = l.length - 1
        · have hgt : ((List.replicate l.length 0).set (l.length - 1) B).getD (t / 8) 0 = B := by
            rw [h8, List.getD_eq_getElem?_getD, List.getElem?_set_self (by simp; omega)]; rfl
          rw [hgt, Nat.testBit_shiftLeft, decide_eq_true (show 8 * l.length - 32 ≤ t ∧ t < 8 * l.length - 32 + 32 by omega), decide_eq_true (show 24 ≤ t - (8 * l.length - 32) by omega), show t - (8 * l.length - 32) - 24 = t % 8 by omega]
          simp
        · have hgt : ((List.replicate l.length 0).set (l.length - 1) B).getD (t / 8) 0 = 0 := by
            rw [List.getD_eq_getElem?_getD, List.getElem?_set_ne (by omega), List.getElem?_replicate]
            split <;> rfl
          rw [hgt, Nat.testBit_shiftLeft, decide_eq_false (show ¬ 24 ≤ t - (8 * l.length - 32) by omega)]
          simp
    have hend := (Flip.ends 2 l _ e2 (8 * l.length - 32) (B <<< 24) hE (by rw [Nat.shiftLeft_eq]; omega) (by rw [Nat.shiftLeft_eq]; omega) (by omega) (by have := hr.2; omega)).2
    rw [e1, Flip.zip_set (by simp) (by omega), Flip.zip_zero, e1] at hend
    have ht : turn (frame n r) (B : Int) = head 2 l.length ++ Le.le 4 (Crc.sum (head 2 l.length ++ (Le.le 8 n ++ r))) ++ (Le.le 8 n ++ r).set (l.length - 1) (((l.getD (l.length - 1) 0 ^^^ (List.replicate l.length 0).getD (l.length - 1) 0) ^^^ B : Nat) : Int) := by
      have hfr : frame n r = (head 2 l.length ++ Le.le 4 (Crc.sum (head 2 l.length ++ (Le.le 8 n ++ r)))) ++ (Le.le 8 n ++ r) := by
        unfold frame Frm.frame
        rw [hl, hll]
      rw [hfr, turn_append _ _ _ (by intro h; have := congrArg List.length h; rw [hl] at this; simp at this)]
      congr 1
      unfold turn
      rw [hl, ← hll]
      congr 1
      have hg : (List.replicate l.length 0).getD (l.length - 1) 0 = 0 := by
        rw [List.getD_eq_getElem?_getD, List.getElem?_replicate]
        split <;> rfl
      have hi : l.length - 1 < l.length := by omega
      have hx : (Le.le 8 n ++ r).getD (l.length - 1) 0 = ((l.getD (l.length - 1) 0 : Nat) : Int) := by
        rw [← e1, List.getD_eq_getElem?_getD, List.getD_eq_getElem?_getD, List.getElem?_map, List.getElem?_eq_getElem hi]; rfl
      rw [hg, Nat.xor_zero, hx]
      exact u8_xor_nat _ _ (by rw [List.getD_eq_getElem?_getD, List.getElem?_eq_getElem hi]; exact e2 _ (List.getElem_mem hi)) (by omega)
    rw [ht]
    exact hend
/-- What is found behind a crash. -/
theorem keeps (rs : List (List Int)) (la : Nat) (hla : la ≤ rs.length) (hr : ∀ r ∈ rs, Fine r) (hn : rs.length < 4294967296) (keep bits : Int) (h0 : 0 ≤ bits) (h1 : bits < 256) :
    ∃ q, la ≤ q ∧ q ≤ rs.length ∧ (records (crash (frames 0 rs) (frames 0 (rs.take la)).length keep bits)).1 = rs.take q := by
  have hsub : ∀ q, ∀ r ∈ rs.take q, Fine r := fun q r h => hr r (List.mem_of_mem_take h)
  have hnf : ¬ (form [] ∧ good []) := fun h => by have := h.1.1; simp at this
  have done : ∀ (q : Nat) (T : List Int), q ≤ rs.length → ¬ (form T ∧ good T) → (records (frames 0 (rs.take q) ++ T)).1 = rs.take q := fun q T hq hT => by
    rw [records_frames _ T (hsub q) hT (by rw [List.length_take]; omega)]
  have hLl : (frames 0 (rs.take la)).length ≤ (frames 0 rs).length := by
    have := len_mono (rs := rs) hla
    rw [List.take_length] at this
    exact this
  have hk := TapeP.kept_le keep ((frames 0 rs).length - (frames 0 (rs.take la)).length)
  unfold crash
  generalize kept keep ((frames 0 rs).length - (frames 0 (rs.take la)).length) = k at *
  obtain ⟨q, T, hq, ht, hT⟩ := take_frames rs 0 ((frames 0 (rs.take la)).length + k) (by omega)
  have hlen : (frames 0 (rs.take la)).length + k = (frames 0 (rs.take q)).length + T.length := by
    have := congrArg List.length ht
    rw [List.length_take, List.length_append] at this
    omega
  have hge : la ≤ q := by
    rcases Nat.lt_or_ge q la with h | h
    · exfalso
      obtain ⟨r, hrq⟩ : ∃ r, rs[q]? = some r := ⟨_, List.getElem?_eq_getElem (by omega)⟩
      have e1 := len_succ hrq
      have e2 := len_mono (rs := rs) (show q + 1 ≤ la by omega)
      rcases hT with rfl | ⟨r2, t, e3, e4, e5, e6⟩
      · simp at hlen
        omega
      · rw [hrq] at e3
        cases e3
        have : T.length ≤ t := by rw [e4, List.length_take]; omega
        omega
    · exact h
  split
  · rename_i hk0
    rw [ht]
    rcases hT with rfl | ⟨r, t, e3, e4, e5, e6⟩
    · rw [List.append_nil]
      simp at hlen
      have hgt : la < q := by
        rcases Nat.lt_or_ge la q with h | h
        · exact h
        · have := len_mono (rs := rs) h
          omega
      obtain ⟨p, rfl⟩ : ∃ p, q = p + 1 := ⟨q - 1, by omega⟩
      obtain ⟨r, hrp⟩ : ∃ r, rs[p]? = some r := ⟨_, List.getElem?_eq_getElem (by omega)⟩
      have hp := List.getElem?_eq_some_iff.1 hrp
      have hfr := hr r (List.mem_of_getElem? hrp)
      have e : frames 0 (rs.take (p + 1)) = frames 0 (rs.take p) ++ frame (((p : Nat) : Int) + 1) r := by
        rw [List.take_succ_eq_append_getElem hp.1, hp.2, frames_append]
        simp only [frames, List.append_nil, List.length_take, Nat.zero_add]
        rw [Nat.min_eq_left (by omega)]
      rw [e, turn_append _ _ _ (by intro h; have := congrArg List.length h; rw [frame_length] at this; simp at this)]
      rcases turned (n := ((p : Nat) : Int) + 1) hfr h0 h1 with h | h
      · rw [h, ← e]
        refine ⟨p + 1, by omega, hq, ?_⟩
        have := done (p + 1) [] hq hnf
        rwa [List.append_nil] at this
      · exact ⟨p, by omega, by omega, done p _ (by omega) fun h2 => h h2.2⟩
    · have hne : T ≠ [] := by
        intro h
        rw [h] at e4
        have := congrArg List.length e4
        rw [List.length_take, frame_length] at this
        simp at this
        omega
      rw [turn_append _ _ _ hne]
      refine ⟨q, hge, hq, done q _ hq fun h => ?_⟩
      rw [e4] at h
      exact torn_form (hr r (List.mem_of_getElem? e3)) e6 bits h.1
  · rename_i hk0
    have : k = 0 := by omega
    subst this
    refine ⟨la, Nat.le_refl _, hla, ?_⟩
    have e : frames 0 rs = frames 0 (rs.take la) ++ frames (0 + (rs.take la).length) (rs.drop la) := by rw [← frames_append, List.take_append_drop]
    have e2 : (frames 0 rs).take ((frames 0 (rs.take la)).length + 0) = frames 0 (rs.take la) := by
      rw [e]
      rw [Nat.add_zero, List.take_left']
      rfl
    rw [e2]
    have := done la [] hla hnf
    rwa [List.append_nil] at this
end Go.Proofs.Ytipmkddcdnbihaa.DiaryKeepsP
/- Operations in a book, out of memory: their bytes, what these say, and what a table has come through. No program in sight. -/
namespace Go.Proofs.Ytipmkddcdnbihaa.Bk
open Go.RowKit Base Step Vec Shape Erase Tbl
open DiaryKeepsP (frames Fine)
theorem drop_at {α : Type} {l : List α} {k : Nat} {x : α} (h : l[k]? = some x) : l.drop k = x :: l.drop (k + 1) := by
  obtain ⟨h1, h2⟩ := List.getElem?_eq_some_iff.1 h
  rw [List.drop_eq_getElem_cons h1, h2]
theorem take_at {α : Type} {l : List α} {k : Nat} {x : α} (h : l[k]? = some x) : l.take (k + 1) = l.take k ++ [x] := by
  obtain ⟨h1, h2⟩ := List.getElem?_eq_some_iff.1 h
  rw [List.take_add_one, h]
  rfl
theorem set_mid {α : Type} {l m : List α} {x y : α} {k : Nat} (h : l.length = k) : (l ++ x :: m).set k y = (l ++ [y]) ++ m := by
  rw [List.set_append_right _ _ (by omega), show k - l.length = 0 by omega]
  simp
/-- A row's bytes in a book. -/
def rowK (r : Row) : List Int := Le.le 1 (rN r) ++ rowB r
def comB (o : Tbl.Op) : List Int := Le.le 1 2 ++ Le.le 4 o.num ++ textB o.name ++ Le.le 4 o.l ++ Le.le 2 o.p ++ Le.le 1 o.n
/-- An operation's bytes. -/
def opB (o : Tbl.Op) : List Int :=
  if o.kind = 1 then Le.le 1 1 ++ Le.le 4 o.num
  else if o.kind = 2 then comB o ++ o.rows.flatMap rowK
  else if o.kind = 3 then Le.le 1 3 ++ textB o.name
  else Le.le 1 4 ++ Le.le 4 o.num ++ Le.le 1 o.stripe ++ Le.le 1 o.slot ++ Le.le 1 o.node ++ Le.le 4 o.gen
/-- An operation whose bytes say all of it. -/
structure Fit (sl : Nat) (o : Tbl.Op) : Prop where
  kind : o.kind = 1 ∨ o.kind = 2 ∨ o.kind = 3 ∨ o.kind = 4
  num : 0 ≤ o.num ∧ o.num < 4294967296
  name : o.kind = 2 ∨ o.kind = 3 → o.name.size ≤ 64
  c2 : o.kind = 2 → 0 ≤ o.l ∧ o.l ≤ 16384 ∧ 1 ≤ o.p ∧ o.p ≤ 256 ∧ o.c = o.n ∧ o.n ≤ 32 ∧ o.rows.length = o.n
  rows : o.kind = 2 → ∀ r ∈ o.rows, (rP r).length = rN r ∧ rN r ≤ sl ∧ ∀ p ∈ rP r, 0 ≤ node p ∧ node p < 32 ∧ 0 ≤ gen p ∧ gen p < 4294967296
  c4 : o.kind = 4 → 0 ≤ o.stripe ∧ o.stripe < 32 ∧ 0 ≤ o.slot ∧ o.slot < 24 ∧ 0 ≤ o.node ∧ o.node < 32 ∧ 0 ≤ o.gen ∧ o.gen < 4294967296
theorem fit_of {sl nd gt : Nat} {t t' : Tb} {o : Tbl.Op} {w w0 W : World} (ho : OpAt w o) (ht : TbAt W gt sl nd t) (hf : ∀ ob ∈ t.objs, FineO nd sl ob) (hsl : sl ≤ 24) (hnd : nd ≤ 32) (hc : applyC sl nd t o = 0) (hr : ApplyR sl nd t o w0 t') : Fit sl o := by
  have hnum := wf_u32 ho.num
  have hgen := wf_u32 ho.gen
  unfold applyC at hc
  unfold ApplyR at hr
  by_cases h1 : o.kind = 1
  · exact ⟨.inl h1, hnum, fun k => by omega, fun k => by omega, fun k => by omega, fun k => by omega⟩
  rw [if_neg h1] at hc hr
  by_cases h2 : o.kind = 2
  · rw [if_pos h2] at hc hr
    obtain ⟨hn, hp, _⟩ := hr.2 hc
    have hl : o.rows.length = o.n := (sl_len ho.rows).1
    have h5 := hp.n
    have h6 := hp.c1
    refine ⟨.inr (.inl h2), hnum, fun _ => hn.few, fun _ => ⟨hp.l0, hp.l1, hp.p0, hp.p1, hp.n.symm, by omega, hl⟩, fun _ r hrm => ?_, fun k => by omega⟩
    have hfr := fine_rows ho.rows r hrm
    have hri := hp.rows r hrm
    refine ⟨hfr.1, by rw [← hfr.1, hri.all]; exact Nat.le_refl _, fun p hpm => ?_⟩
    have := hri.on p hpm
    exact ⟨this.1, by omega, hfr.2 p hpm⟩
  rw [if_neg h2] at hc hr
  by_cases h3 : o.kind = 3
  · rw [if_pos h3] at hc hr
    unfold removeC at hc
    refine ⟨.inr (.inr (.inl h3)), hnum, fun _ => ?_, fun k => by omega, fun k => by omega, fun k => by omega⟩
    have hth : there t.objs o.name = true := by
      cases hh : there t.objs o.name with
      | true => rfl
      | false => rw [hh] at hc; simp at hc
    obtain ⟨ob, h4, h5⟩ := there_at hth
    have := (hf ob (List.mem_of_getElem? h4)).nm
    rw [cmpS_zero.1 h5] at this
    exact this
  rw [if_neg h3] at hc hr
  by_cases h4 : o.kind = 4
  · rw [if_pos h4] at hc hr
    obtain ⟨k, ob, ob', hk, hob, hright, hm, _⟩ := hr.2 hc
    have hb : ¬ badMove sl t o := fun h => by
      unfold moveC at hc
      rw [if_pos h] at hc
      cases hc
    have hb2 : ¬ (numAt t.objs o.num < 0) ∧ ¬ (o.stripe < 0) ∧ ¬ (∀ ob, t.objs[(numAt t.objs o.num).toNat]? = some ob → (pN ob : Int) ≤ o.stripe) ∧ ¬ (o.slot < 0) ∧ ¬ ((sl : Int) ≤ o.slot) :=
      ⟨fun h => hb (.inl h), fun h => hb (.inr (.inl h)), fun h => hb (.inr (.inr (.inl h))), fun h => hb (.inr (.inr (.inr (.inl h)))), fun h => hb (.inr (.inr (.inr (.inr h))))⟩
    obtain ⟨b1, b2, b3, b4, b5⟩ := hb2
    have hobf := hf ob (List.mem_of_getElem? hob)
    have hst : o.stripe < (pN ob : Int) := by
      rcases Int.lt_or_le o.stripe (pN ob) with h | h
      · exact h
      · refine absurd (fun ob2 h2 => ?_) b3
        rw [hk] at h2
        have h2 : t.objs[k]? = some ob2 := h2
        rw [hob] at h2
        cases h2
        exact h
    have hlen := hright.all
    have hslot : o.slot.toNat < (toRow t o).length := by rw [hlen]; omega
    have hin : pl o.node o.gen ∈ toRow t o := by
      have h7 : (rowOf t o).length = (toRow t o).length := by unfold toRow; rw [List.length_set]
      have : (toRow t o)[o.slot.toNat]? = some (pl o.node o.gen) := by
        unfold toRow
        rw [List.getElem?_set]
        simp [show o.slot.toNat < (rowOf t o).length by omega]
      exact List.mem_of_getElem? this
    have hon := hright.on _ hin
    have e1 : node (pl o.node o.gen) = o.node := rfl
    rw [e1] at hon
    have h8 := hobf.rws
    exact ⟨.inr (.inr (.inr h4)), hnum, fun k => by omega, fun k => by omega, fun k => by omega, fun _ => ⟨by omega, by omega, by omega, by omega, hon.1, by omega, hgen.1, hgen.2⟩⟩
  · rw [if_neg h4] at hc
    cases hc
/-- An operation without rows that its kind does not have. -/
def norm (o : Tbl.Op) : Tbl.Op := if o.kind = 2 then o else { o with A := none, n := 0, cap := 0, rows := [] }
theorem norm_kind (o : Tbl.Op) : (norm o).kind = o.kind := by unfold norm; split <;> rfl
theorem norm_two {o : Tbl.Op} (h : o.kind = 2) : norm o = o := by unfold norm; rw [if_pos h]
theorem norm_bytes (o : Tbl.Op) : opB (norm o) = opB o := by
  unfold norm
  split
  · rfl
  · rename_i h
    unfold opB
    by_cases h1 : o.kind = 1
    · rw [if_pos h1, if_pos h1]
    rw [if_neg h1, if_neg h1, if_neg h, if_neg h]
theorem norm_fit {sl : Nat} {o : Tbl.Op} (h : Fit sl o) : Fit sl (norm o) := by
  by_cases h2 : o.kind = 2
  · rw [norm_two h2]; exact h
  · unfold norm
    rw [if_neg h2]
    exact ⟨h.kind, h.num, h.name, fun k => absurd k h2, fun k => absurd k h2, h.c4⟩
theorem norm_at {w : World} {o : Tbl.Op} (h : OpAt w o) : OpAt w (norm o) := by
  by_cases h2 : o.kind = 2
  · rw [norm_two h2]; exact h
  · unfold norm
    rw [if_neg h2]
    exact ⟨h.num, h.name, h.l, h.c, h.p, ⟨rfl, Nat.le_refl _, by simp [maxLen], fun _ => rfl, fun i x hx => (by cases hx)⟩, Nat.zero_le _, fun r hr => (by cases hr), h.gen, h.node⟩
theorem norm_r {sl nd : Nat} {t t' : Tb} {o : Tbl.Op} (h : RApplyR sl nd t o t') : RApplyR sl nd t (norm o) t' ∧ rApplyC sl nd t (norm o) = rApplyC sl nd t o := by
  by_cases h2 : o.kind = 2
  · rw [norm_two h2]
    exact ⟨h, rfl⟩
  · have hk := norm_kind o
    unfold norm at hk ⊢
    rw [if_neg h2] at hk ⊢
    unfold RApplyR rApplyC at *
    by_cases h1 : o.kind = 1
    · rw [if_pos h1] at h
      rw [if_pos (hk.trans h1), if_pos (hk.trans h1), if_pos h1]
      exact ⟨h, rfl⟩
    rw [if_neg h1, if_neg h2] at h
    have hk1 : ¬ ({ o with A := none, n := 0, cap := 0, rows := [] } : Tbl.Op).kind = 1 := fun e => h1 (hk.symm.trans e)
    have hk2 : ¬ ({ o with A := none, n := 0, cap := 0, rows := [] } : Tbl.Op).kind = 2 := fun e => h2 (hk.symm.trans e)
    rw [if_neg hk1, if_neg hk1, if_neg hk2, if_neg hk2, if_neg h1, if_neg h2]
    by_cases h3 : o.kind = 3
    · rw [if_pos h3] at h
      rw [if_pos (hk.trans h3), if_pos (hk.trans h3), if_pos h3]
      exact ⟨h, rfl⟩
    have hk3 : ¬ ({ o with A := none, n := 0, cap := 0, rows := [] } : Tbl.Op).kind = 3 := fun e => h3 (hk.symm.trans e)
    rw [if_neg h3] at h
    rw [if_neg hk3, if_neg hk3, if_neg h3]
    by_cases h4 : o.kind = 4
    · rw [if_pos h4] at h
      rw [if_pos (hk.trans h4), if_pos (hk.trans h4), if_pos h4]
      refine ⟨⟨h.1, fun hc => ?_⟩, rfl⟩
      obtain ⟨k, ob, ob', k1, k2, k3, k4, k5, k6, k7⟩ := h.2 hc
      exact ⟨k, ob, ob', k1, k2, k3, ⟨k4.num, k4.name, k4.plan, k4.n, k4.len, k4.each⟩, k5, k6, k7⟩
    have hk4 : ¬ ({ o with A := none, n := 0, cap := 0, rows := [] } : Tbl.Op).kind = 4 := fun e => h4 (hk.symm.trans e)
    rw [if_neg h4] at h
    rw [if_neg hk4, if_neg hk4, if_neg h4]
    exact ⟨h, rfl⟩
/-- Operations of which the same comes. -/
structure Like2 (o o' : Tbl.Op) : Prop where
  kind : o'.kind = o.kind
  n : o'.n = o.n
  rows : Same o.rows o'.rows
  c1 : o.kind = 1 → o'.num = o.num
  c2 : o.kind = 2 → o'.num = o.num ∧ o'.name = o.name ∧ o'.l = o.l ∧ o'.p = o.p ∧ o'.c = o.c
  c3 : o.kind = 3 → o'.name = o.name
  c4 : o.kind = 4 → o'.num = o.num ∧ o'.stripe = o.stripe ∧ o'.slot = o.slot ∧ o'.node = o.node ∧ o'.gen = o.gen
theorem planOk_like {sl nd : Nat} {o o' : Tbl.Op} (h1 : o'.l = o.l) (h2 : o'.p = o.p) (h3 : o'.c = o.c) (h4 : o'.n = o.n) (h5 : o'.rows = o.rows) (k : PlanOk sl nd o) : PlanOk sl nd o' :=
  ⟨by rw [h1]; exact k.l0, by rw [h1]; exact k.l1, by rw [h3]; exact k.c0, by rw [h3]; exact k.c1, by rw [h2]; exact k.p0, by rw [h2]; exact k.p1, by rw [h4, h3]; exact k.n, by rw [h5]; exact k.rows⟩
/-- Such an operation does what the other one does, with its rows. -/
theorem like_apply {sl nd : Nat} {t t' : Tb} {o o' : Tbl.Op} {w : World} (h : Like2 o o') (hr : ApplyR sl nd t o' w t') :
    ApplyR sl nd t (withRows o o'.A o'.cap o'.rows) w t' ∧ applyC sl nd t (withRows o o'.A o'.cap o'.rows) = applyC sl nd t o' := by
  obtain ⟨q, hq⟩ : ∃ q, q = withRows o o'.A o'.cap o'.rows := ⟨_, rfl⟩
  have e0 : q.kind = o.kind := by rw [hq]; rfl
  have e1 : q.num = o.num := by rw [hq]; rfl
  have e2 : q.name = o.name := by rw [hq]; rfl
  have e3 : q.l = o.l := by rw [hq]; rfl
  have e4 : q.c = o.c := by rw [hq]; rfl
  have e5 : q.p = o.p := by rw [hq]; rfl
  have e6 : q.n = o.n := by rw [hq]; rfl
  have e7 : q.rows = o'.rows := by rw [hq]; rfl
  have e8 : q.stripe = o.stripe := by rw [hq]; rfl
  have e9 : q.slot = o.slot := by rw [hq]; rfl
  have e10 : q.node = o.node := by rw [hq]; rfl
  have e11 : q.gen = o.gen := by rw [hq]; rfl
  rw [← hq]
  unfold ApplyR at hr ⊢
  unfold applyC
  rw [h.kind] at hr ⊢
  rw [e0]
  by_cases h1 : o.kind = 1
  · have e : beginC t.nx q = beginC t.nx o' := by
      unfold beginC
      rw [h.c1 h1, e1]
    rw [if_pos h1] at hr
    rw [if_pos h1, if_pos h1, if_pos h1, e]
    exact ⟨hr, rfl⟩
  rw [if_neg h1] at hr
  rw [if_neg h1, if_neg h1, if_neg h1]
  by_cases h2 : o.kind = 2
  · obtain ⟨q1, q2, q3, q4, q5⟩ := h.c2 h2
    have hp : PlanOk sl nd q ↔ PlanOk sl nd o' := ⟨planOk_like (by rw [e3, q3]) (by rw [e5, q4]) (by rw [e4, q5]) (by rw [e6, h.n]) e7.symm, planOk_like (by rw [e3, q3]) (by rw [e5, q4]) (by rw [e4, q5]) (by rw [e6, h.n]) e7⟩
    have hcc : commitC sl nd t q = commitC sl nd t o' := by
      unfold commitC
      rw [e1, e2, q1, q2]
      exact if_iff (not_congr (and_congr Iff.rfl hp)) rfl rfl
    rw [if_pos h2] at hr
    rw [if_pos h2, if_pos h2, if_pos h2, hcc]
    refine ⟨⟨hr.1, fun hc => ?_⟩, rfl⟩
    obtain ⟨k1, k2, k3, k4, ob, k5, k6⟩ := hr.2 hc
    rw [e2, ← q2]
    refine ⟨k1, hp.2 k2, k3, by rw [k4, e1, q1], ob, ⟨by rw [k5.num, e1, q1], by rw [k5.name, e2, q2], by rw [k5.plan, q3, q4, q5, e3, e4, e5], by rw [k5.len, e7], fun i r r' hr => k5.alike i r r' (by rw [← e7]; exact hr)⟩, k6⟩
  rw [if_neg h2] at hr
  rw [if_neg h2, if_neg h2, if_neg h2]
  by_cases h3 : o.kind = 3
  · have q := h.c3 h3
    rw [if_pos h3] at hr
    rw [if_pos h3, if_pos h3, if_pos h3]
    unfold removeC
    rw [e2, ← q]
    exact ⟨hr, rfl⟩
  rw [if_neg h3] at hr
  rw [if_neg h3, if_neg h3, if_neg h3]
  by_cases h4 : o.kind = 4
  · obtain ⟨q1, q2, q3, q4, q5⟩ := h.c4 h4
    have er : rowOf t q = rowOf t o' := by
      unfold rowOf
      rw [e1, e8, q1, q2]
    have et : toRow t q = toRow t o' := by
      unfold toRow
      rw [er, e9, e10, e11, q3, q4, q5]
    have hb : badMove sl t q ↔ badMove sl t o' := by
      unfold badMove
      rw [e1, e8, e9, q1, q2, q3]
    have hm : moveC sl nd t q = moveC sl nd t o' := by
      unfold moveC
      rw [et, er, e9, e11, q3, q5]
      exact if_iff hb rfl rfl
    rw [if_pos h4] at hr
    rw [if_pos h4, if_pos h4, if_pos h4, hm]
    refine ⟨⟨hr.1, fun hc => ?_⟩, rfl⟩
    obtain ⟨k, ob, ob', k1, k2, k3, k4, k5, k6, k7⟩ := hr.2 hc
    refine ⟨k, ob, ob', by rw [e1, ← q1]; exact k1, k2, by rw [et]; exact k3, ⟨k4.num, k4.name, k4.plan, k4.n, k4.len, fun i r r' h1 h2 => ?_⟩, k5, k6, k7⟩
    rw [e8, e9, e10, e11, ← q2, ← q3, ← q4, ← q5]
    exact k4.each i r r' h1 h2
  · rw [if_neg h4] at hr
    rw [if_neg h4, if_neg h4, if_neg h4]
    exact ⟨hr, rfl⟩
theorem like_at {w W : World} {o o' : Tbl.Op} (h : Like2 o o') (ho : OpAt w o) (ho' : OpAt W o') : OpAt W (withRows o o'.A o'.cap o'.rows) :=
  ⟨ho.num, ho.name, ho.l, ho.c, ho.p, by have := ho'.rows; rw [h.n] at this; exact this, ho.few, ho'.each, ho.gen, ho.node⟩
/-- What a table has come through: f i is the document's table behind the first i operations. -/
structure Hist (sl nd : Nat) (os : List Tbl.Op) (f : Nat → Tb) : Prop where
  zero : f 0 = ⟨1, 0, none, 0, 0, []⟩
  step : ∀ i o, os[i]? = some o → RApplyR sl nd (f i) o (f (i + 1)) ∧ rApplyC sl nd (f i) o = 0 ∧ Fit sl o ∧ (∃ w, OpAt w o) ∧ ∃ V, Doc V (f (i + 1))
theorem Hist.nil (sl nd : Nat) : Hist sl nd [] fun _ => ⟨1, 0, none, 0, 0, []⟩ := ⟨rfl, fun i o h => by cases h⟩
theorem Hist.take {sl nd : Nat} {os : List Tbl.Op} {f : Nat → Tb} (h : Hist sl nd os f) (q : Nat) : Hist sl nd (os.take q) f :=
  ⟨h.zero, fun i o ho => h.step i o (by
    rw [List.getElem?_take] at ho
    split at ho
    · exact ho
    · cases ho)⟩
/-- One operation more. -/
theorem Hist.snoc {sl nd : Nat} {os : List Tbl.Op} {f : Nat → Tb} {o : Tbl.Op} {r' : Tb} {w V : World} (h : Hist sl nd os f) (hr : RApplyR sl nd (f os.length) o r') (hc : rApplyC sl nd (f os.length) o = 0) (hf : Fit sl o) (ho : OpAt w o) (hd : Doc V r') :
    Hist sl nd (os ++ [norm o]) (fun i => if i ≤ os.length then f i else r') := by
  refine ⟨by simp [h.zero], fun i p hp => ?_⟩
  rcases Nat.lt_or_ge i os.length with hi | hi
  · rw [List.getElem?_append_left hi] at hp
    have := h.step i p hp
    simp only [show i ≤ os.length by omega, show i + 1 ≤ os.length by omega, if_true]
    exact this
  · rw [List.getElem?_append_right hi] at hp
    have hi0 : i - os.length = 0 := by
      rcases Nat.eq_zero_or_pos (i - os.length) with h | h
      · exact h
      · rw [List.getElem?_eq_none (by simp; omega)] at hp; cases hp
    have hie : i = os.length := by omega
    subst hie
    rw [hi0] at hp
    simp at hp
    subst hp
    obtain ⟨h1, h2⟩ := norm_r hr
    simp only [Nat.le_refl, if_true, show ¬ os.length + 1 ≤ os.length by omega, if_false]
    exact ⟨h1, by rw [h2]; exact hc, norm_fit hf, ⟨w, norm_at ho⟩, V, hd⟩
theorem snoc_old {os : List Tbl.Op} {f : Nat → Tb} {r' : Tb} {i : Nat} (h : i ≤ os.length) : (fun i => if i ≤ os.length then f i else r') i = f i := by simp [h]
theorem snoc_new {os : List Tbl.Op} {o : Tbl.Op} {f : Nat → Tb} {r' : Tb} : (fun i => if i ≤ os.length then f i else r') (os ++ [o]).length = r' := by
  simp
  intro h
  omega
/-- A table that is done anew. -/
theorem redo {sl nd : Nat} {os : List Tbl.Op} {f : Nat → Tb} (h : Hist sl nd os f) {i : Nat} {o o' : Tbl.Op} (hi : os[i]? = some o) {t t' : Tb} {w W : World} {gt : Nat} (hg : Tbl.Good sl nd t (f i)) (hl : Like2 o o') (ho' : OpAt w o') (hr : ApplyR sl nd t o' w t') (hT : TbAt W gt sl nd t') :
    applyC sl nd t o' = 0 ∧ Tbl.Good sl nd t' (f (i + 1)) := by
  obtain ⟨h1, h2, _, ⟨w0, ho⟩, V, hd⟩ := h.step i o hi
  obtain ⟨k1, k2⟩ := like_apply hl hr
  obtain ⟨q1, q2⟩ := good_apply hg hl.rows (like_at hl ho ho') k1 h1 hT hd
  exact ⟨by rw [← k2, q1, h2], q2⟩
/-! bytes -/
theorem rowK_len {sl : Nat} {r : Row} (h1 : (rP r).length = rN r) (h2 : rN r ≤ sl) : (rowK r).length ≤ 1 + 5 * sl := by
  have h3 := flat_le_mul placeB 5 (rP r) fun p _ => by simp [placeB, Le.le_length]
  unfold rowK rowB
  rw [List.length_append, Le.le_length]
  omega
theorem opB_len {sl : Nat} {o : Tbl.Op} (h : Fit sl o) : (opB o).length ≤ 78 + 32 * (1 + 5 * sl) := by
  unfold opB
  split
  · simp [Le.le_length]; omega
  · split
    · rename_i h2
      have h3 := h.c2 h2
      have h4 := flat_le_mul rowK (1 + 5 * sl) o.rows fun r hr => rowK_len (h.rows h2 r hr).1 (h.rows h2 r hr).2.1
      have h5 := h.name (.inl h2)
      have h6 : o.rows.length * (1 + 5 * sl) ≤ 32 * (1 + 5 * sl) := Nat.mul_le_mul_right _ (by omega)
      have h7 := Nat.le_trans h4 h6
      have h8 : (comB o).length ≤ 78 := by
        simp [comB, textB, Le.le_length, bytesI_len]
        omega
      rw [List.length_append]
      omega
    · split
      · rename_i h3
        have h5 := h.name (.inr h3)
        simp [textB, Le.le_length, bytesI_len]
        omega
      · simp [Le.le_length]; omega
theorem placeB_u8 (p : plS.T) : Le.U8s (placeB p) := fun x hx => by
  unfold placeB at hx
  exact (List.mem_append.1 hx).elim (Le.le_u8 _ _ x) (Le.le_u8 _ _ x)
theorem textB_u8 (s : ByteArray) : Le.U8s (textB s) := fun x hx => by
  unfold textB at hx
  exact (List.mem_append.1 hx).elim (Le.le_u8 _ _ x) fun k => wf_u8 (bytesI_wf s x k)
theorem app_u8 {a b : List Int} (h : Le.U8s a) (k : Le.U8s b) : Le.U8s (a ++ b) := fun x hx => (List.mem_append.1 hx).elim (h x) (k x)
theorem flat_u8 {α : Type} {f : α → List Int} (h : ∀ a, Le.U8s (f a)) (l : List α) : Le.U8s (l.flatMap f) := fun x hx => by
  obtain ⟨a, _, k⟩ := List.mem_flatMap.1 hx
  exact h a x k
theorem rowK_u8 (r : Row) : Le.U8s (rowK r) := app_u8 (Le.le_u8 _ _) (flat_u8 placeB_u8 _)
theorem opB_u8 (o : Tbl.Op) : Le.U8s (opB o) := by
  unfold opB comB
  split
  · exact app_u8 (Le.le_u8 _ _) (Le.le_u8 _ _)
  · split
    · exact app_u8 (app_u8 (app_u8 (app_u8 (app_u8 (app_u8 (Le.le_u8 _ _) (Le.le_u8 _ _)) (textB_u8 _)) (Le.le_u8 _ _)) (Le.le_u8 _ _)) (Le.le_u8 _ _)) (flat_u8 rowK_u8 _)
    · split
      · exact app_u8 (Le.le_u8 _ _) (textB_u8 _)
      · exact app_u8 (app_u8 (app_u8 (app_u8 (app_u8 (Le.le_u8 _ _) (Le.le_u8 _ _)) (Le.le_u8 _ _)) (Le.le_u8 _ _)) (Le.le_u8 _ _)) (Le.le_u8 _ _)
theorem opB_wf (o : Tbl.Op) : ∀ x ∈ opB o, (Lit.int .u8 x).wf = true := fun x hx => u8_wf (opB_u8 o x hx).1 (opB_u8 o x hx).2
theorem opB_fine {sl : Nat} {o : Tbl.Op} (h : Fit sl o) (hsl : sl ≤ 24) : Fine (opB o) := ⟨opB_u8 o, by have := opB_len h; omega⟩
/-- A number is taken from the front. -/
theorem rn_app (k : Nat) (v : Int) (xs : List Int) (h0 : 0 ≤ v) (h1 : v < 256 ^ k) : Pack.rn k (Le.le k v ++ xs) = v ∧ Pack.rx k (Le.le k v ++ xs) = xs ∧ ∀ t, Pack.rt k (Le.le k v ++ xs) t = t := by
  have hl : (Le.le k v).length = k := Le.le_length k v
  have hk : k ≤ (Le.le k v ++ xs).length := by rw [List.length_append, hl]; omega
  unfold Pack.rn Pack.rx Pack.rt
  refine ⟨?_, ?_, fun t => by rw [if_pos hk]⟩
  · rw [if_pos hk, List.take_left' hl, Le.of_le_lt k v h0 h1]
  · rw [if_pos hk, List.drop_left' hl]
end Go.Proofs.Ytipmkddcdnbihaa.Bk
/- A reader over bytes that lie ahead of a block B: it reads on whatever is written from B on. -/
namespace Go.Proofs.Ytipmkddcdnbihaa.PackB
open Go.RowKit Base Pack
def ReaderB (w : World) (g B : Nat) (xs : List Int) (torn : Bool) : Prop := ∃ A n c, ReaderIs w g A n c xs torn ∧ ∀ ad, A = some ad → 0 < n → ad.block < B
theorem ReaderB.reader {w : World} {g B : Nat} {xs : List Int} {t : Bool} (h : ReaderB w g B xs t) : Reader w g xs t := by
  obtain ⟨A, n, c, h, _⟩ := h
  exact ⟨A, n, c, h⟩
theorem ReaderB.chg {w w' : World} {S : Nat → Prop} {g B : Nat} {xs : List Int} {t : Bool} (h : ReaderB w g B xs t) (hc : Chg S w w') (hS : ∀ i, S i → B ≤ i ∧ i ≠ g) : ReaderB w' g B xs t := by
  obtain ⟨A, n, c, h, hb⟩ := h
  refine ⟨A, n, c, ⟨hc.at_ h.at_ fun k => (hS _ k).2 rfl, h.rd.chg hc fun ad ha h0 k => ?_, h.room, h.none⟩, hb⟩
  have := hb ad ha h0
  have := (hS _ k).1
  omega
theorem ReaderB.ext {w w' : World} {g B : Nat} {xs : List Int} {t : Bool} (h : ReaderB w g B xs t) (he : Ext w w') : ReaderB w' g B xs t := by
  obtain ⟨A, n, c, h, hb⟩ := h
  exact ⟨A, n, c, ⟨he.at_ h.at_, h.rd.ext he, h.room, h.none⟩, hb⟩
theorem ReaderB.lt {w : World} {g B : Nat} {xs : List Int} {t : Bool} (h : ReaderB w g B xs t) : g < w.heap.size := by
  obtain ⟨A, n, c, h, hb⟩ := h
  exact lt_of_at h.at_
theorem readB_calls (A : Option Addr) (n c : Nat) (xs : List Int) (w : World) (hr : Rd w .u8 A n xs) (hc : n ≤ c) (h0 : A = none → c = 0) :
    Calls Try.prog 155 #[.slice A n c] w fun e w' => e = .returned (.pointer (some ⟨w.heap.size, 0, none⟩)) ∧ ReaderB w' w.heap.size w.heap.size xs false ∧ Ext w w' := by
  have HR := Lib.hid hr
  clear hr
  go_enter Try.func155, Try.ntmps155
  go_wp2
  go_ret
  exact ⟨rfl, ⟨A, n, c, ⟨at_new _ _, HR.out.below (below_new _ _), hc, h0⟩, fun ad ha hn => by subst ha; exact HR.out.lt hn⟩, below_new _ _⟩
set_option maxHeartbeats 400000 in
set_option maxRecDepth 100000 in
theorem rawB_calls (g B : Nat) (xs : List Int) (torn : Bool) (k : Int) (w : World) (hr : ReaderB w g B xs torn) (h0 : 0 ≤ k) (h1 : k ≤ xs.length) (hx : xs.length ≤ 1099511627776) :
    Calls Try.prog 214 #[.pointer (some ⟨g, 0, none⟩), .int .i64 k] w fun e w' => ∃ A c, e = .returned (.slice A k.toNat c) ∧ Own w' (fun i => w.heap.size ≤ i) 5 1 (.slice A k.toNat c) k.toNat (nums .u8 (xs.take k.toNat)) ∧
      ReaderB w' g B (xs.drop k.toNat) torn ∧ Chg (fun i => i = g) w w' := by
  obtain ⟨A1, n1, c1, hv1, hbb⟩ := hr
  have HBB := Lib.hid hbb
  clear hbb
  have hcell0 := cell0_of hv1.at_
  have hcell1 := cell1_of hv1.at_
  have hfree := free_of hv1.at_ 0
  have hlt : g < w.heap.size := lt_of_at hv1.at_
  have HV1 := Lib.hid hv1
  have hl := hv1.rd.len
  obtain rfl : xs.length = n1 := hl
  have hroom := hv1.room
  obtain ⟨k, rfl⟩ := Int.eq_ofNat_of_zero_le h0
  have hsl : Rd w .u8 A1 k (xs.take k) := rd_take hv1.rd (by omega)
  have hal : Below w.heap.size w (w.alloc (.cells #[] 5)) := (Below.refl _ _).alloc (Nat.le_refl _) _
  have HRA := Lib.hid (hsl.below hal)
  have hsz : (w.alloc (.cells #[] 5)).heap.size = w.heap.size + 1 := by simp
  have HSZ := Lib.hid hsz
  clear hv1 hsl hal hsz
  go_enter Try.func214, Try.ntmps214
  go_wp2_with (at_builtin; refine wpList_app _ rfl (.tmp 23) (.tmp 29) 55 rfl (fun i => w.heap.size ≤ i) 5 .u8 1 Try.underlying55 info_u8 (by decide) (.slice (some ⟨w.heap.size, 0, Option.none⟩) 0 0) 0 [] rfl ?c1 A1 k _ (xs.take k) rfl HRA.out ?c2 ?c3 ?_)
  case c1 => exact ⟨World.ownsRow_lit w #[] 0 (Nat.zero_le _) (by simp only [maxLen]; omega) rfl, by simp [Value.ownBlock]⟩
  case c2 => omega
  case c3 => intro i hi; have := HSZ.out; omega
  intro A2 c2 w2 ho2 hc2
  have HO2 := Lib.hid ho2
  have hc3 : Chg (fun _ => False) w w2 := ((Chg.refl _ _).alloc _).step hc2 fun i hi h => by simp [Value.ownBlock] at h; omega
  have HC3 := Lib.hid hc3
  have hb2 := hc3.at_ HV1.out.at_ (fun h => h)
  have HB2 := Lib.hid hb2
  have hcell20 := cell0_of hb2
  have hcell21 := cell1_of hb2
  have hfree2 := free_of hb2 0
  clear ho2 hc2 hc3 hb2
  go_wp2
  all_goals
    go_ret
    refine ⟨A2, c2, rfl, HO2.out.keep fun i hi => Below.heap_setCell _ _ _ _ fun e => HO2.out.ne HB2.out (by decide) (by rw [hi, e]), ?_, Chg.setCell (S := fun i => i = g) (HC3.out.mono fun _ _ h => h.elim) (p := ⟨g, 0, Option.none⟩) rfl _⟩
  · have : xs.length - k = 0 := by omega
    rw [this]
    refine ⟨A1, 0, 0, ⟨setCell_at0 HB2.out, ?_, Nat.le_refl _, fun _ => rfl⟩, fun _ _ h => absurd h (by omega)⟩
    rw [List.drop_eq_nil_of_le (by omega)]
    exact rd_nil _ _ _
  · refine ⟨_, _, _, ⟨setCell_at0 HB2.out, rd_setCell (rd_dropMap (HV1.out.rd.chg HC3.out fun _ _ _ h => h) (by omega)) _ ?_, by omega, ?_⟩, ?_⟩
    · intro ad e hn
      rcases A1 with _ | a1
      · cases e
      · cases e
        rw [block_add]
        exact HV1.out.apart a1 rfl (by omega)
    · intro e
      rcases A1 with _ | a1
      · have := HV1.out.none rfl; omega
      · cases e
    · intro ad e hn
      rcases A1 with _ | a1
      · cases e
      · cases e
        rw [block_add]
        exact HBB.out a1 rfl (by omega)
set_option maxHeartbeats 400000 in
set_option maxRecDepth 100000 in
/-- A number that is there. -/
theorem numB_calls (g B : Nat) (xs : List Int) (torn : Bool) (k : Nat) (v : Int) (w : World) (hr : ReaderB w g B (Le.le k v ++ xs) torn) (h8 : k ≤ 8) (hx : xs.length ≤ 1099511627000) (hv0 : 0 ≤ v) (hv1 : v < 256 ^ k) :
    Calls Try.prog 156 #[.pointer (some ⟨g, 0, none⟩), .int .i64 (k : Nat)] w fun e w' => e = .returned (.int .u64 v) ∧ ReaderB w' g B xs torn ∧ Chg (fun i => i = g) w w' := by
  obtain ⟨zs, hzs⟩ : ∃ zs, zs = Le.le k v ++ xs := ⟨_, rfl⟩
  have hle : (Le.le k v).length = k := Le.le_length k v
  have hzl : zs.length = k + xs.length := by rw [hzs, List.length_append, hle]
  have htk : zs.take k = Le.le k v := by rw [hzs, List.take_left' hle]
  have hdr : zs.drop k = xs := by rw [hzs, List.drop_left' hle]
  have hval : Le.of (Le.le k v) = v := Le.of_le_lt k v hv0 hv1
  rw [← hzs] at hr
  have HR := Lib.hid hr
  have HDR := Lib.hid hdr
  have HVAL := Lib.hid hval
  have HTK := Lib.hid htk
  clear hr hdr hval htk hzs hv1
  go_enter Try.func156, Try.ntmps156
  go_wp2_with fail
  refine (rawB_calls g B zs torn k w HR.out (by omega) (by omega) (by omega)).mono ?_
  rintro e w' ⟨A, c, rfl, ho, hrd, hc⟩
  rw [Int.toNat_natCast] at *
  rw [HDR.out] at hrd
  have HO := Lib.hid ho
  have HRD := Lib.hid hrd
  have HC := Lib.hid hc
  have hwf : ∀ x ∈ zs, (Lit.int .u8 x).wf = true := by obtain ⟨_, _, _, h, _⟩ := HR.out; exact h.rd.wf
  clear ho hrd hc
  have hro : Rd w' .u8 A k (zs.take k) := HO.out.rd (fun x hx => hwf x (List.mem_of_mem_take hx))
  have HRO := Lib.hid hro
  clear hro hwf
  generalize hys : zs.take k = ys at *
  have HYS : Hid (Le.of ys = v) := Lib.hid (by rw [HTK.out]; exact HVAL.out)
  clear hys HTK
  go_wp2
  go_loopw [5, 6, 7, 14] (fun n _ _ i wr => ∃ j : Nat, j ≤ k ∧ i = .int .i64 j ∧ n = .int .u64 (Le.of (ys.take j)) ∧ wr = w') (fun _ _ _ i _ => k - (intOf i).toNat)
  case atStart => exact ⟨0, Nat.zero_le _, rfl, rfl, rfl⟩
  case round =>
    obtain ⟨j, hj, rfl, rfl, rfl⟩ := hrel
    by_cases hlt : j < k
    · obtain ⟨ad, rfl, hcell⟩ := HRO.out.at_ hlt
      obtain ⟨hz0, hz1⟩ := wf_u8 (HRO.out.wfAt hlt)
      generalize hg : ys.getD j 0 = b at *
      have HG := Lib.hid hg
      clear hg
      have hb := Le.of_take_bound (fun x hx => wf_u8 (HRO.out.wf x hx)) HRO.out.len hj
      have hor := Le.or_step j (by omega) (Le.of (ys.take j)) b hb.1 hb.2 hz0 hz1
      have hsn := Le.of_snoc (ys.take j) b
      rw [← take_next HRO.out.len hlt HG.out, List.length_take, HRO.out.len, Nat.min_eq_left hj, ← hor] at hsn
      have HSN := Lib.hid hsn
      clear hb hor hsn
      go_wp2
      go_roundw
      case rel => exact ⟨j + 1, by omega, by go_num, by rw [HSN.out], trivial⟩
      case measure => simp [intOf]; omega
    · obtain rfl : j = k := by omega
      have ht : ys.take j = ys := List.take_of_length_le (by rw [HRO.out.len]; omega)
      have HT := Lib.hid ht
      clear ht
      go_wp2
      go_ret
      exact ⟨ret_int (by rw [HT.out, HYS.out]), HRD.out, HC.out⟩
set_option maxHeartbeats 400000 in
set_option maxRecDepth 100000 in
/-- A text that is there. -/
theorem textB_calls (g B : Nat) (xs ys : List Int) (torn : Bool) (w : World) (hr : ReaderB w g B (Le.le 2 ys.length ++ (ys ++ xs)) torn) (hx : xs.length ≤ 1099511626000) (hy : ys.length ≤ 1000) :
    Calls Try.prog 157 #[.pointer (some ⟨g, 0, none⟩)] w fun e w' => ∃ A c, e = .returned (.slice A ys.length c) ∧ New w w' 5 1 A ys.length c (nums .u8 ys) ∧
      ReaderB w' g B xs torn ∧ Chg (fun i => i = g) w w' := by
  have HR := Lib.hid hr
  have W0 : IntKind.i64.wrap ((ys.length : Nat) : Int) = ((ys.length : Nat) : Int) := IntWalk.i64_in _ (by omega)
  clear hr
  go_enter Try.func157, Try.ntmps157
  go_wp2_with fail
  refine (numB_calls g B (ys ++ xs) torn 2 (ys.length : Nat) w HR.out (by decide) (by rw [List.length_append]; omega) (by omega) (by omega)).mono ?_
  rintro e w1 ⟨rfl, hr1, hc1⟩
  have HR1 := Lib.hid hr1
  have HC1 := Lib.hid hc1
  clear hr1 hc1 HR
  go_wp2_with fail
  refine (rawB_calls g B (ys ++ xs) torn (ys.length : Nat) w1 HR1.out (by omega) (by rw [List.length_append]; omega) (by rw [List.length_append]; omega)).mono ?_
  rintro e w2 ⟨A, c, rfl, ho, hr2, hc2⟩
  rw [Int.toNat_natCast, List.take_left' rfl] at ho
  rw [Int.toNat_natCast, List.drop_left' rfl] at hr2
  have HO := Lib.hid ho
  have HR2 := Lib.hid hr2
  have HC2 := Lib.hid (HC1.out.trans hc2)
  have hs1 := HC1.out.size
  clear ho hr2 hc2
  go_wp2_with fail
  go_ret
  exact ⟨A, c, rfl, HO.out.mono fun i _ hi => Nat.le_trans hs1 hi, HR2.out, HC2.out⟩
end Go.Proofs.Ytipmkddcdnbihaa.PackB
/- Places, read out of a book's bytes: places; walked. -/
namespace Go.Proofs.Ytipmkddcdnbihaa.Bk
open Go.RowKit Base Step Vec Shape Erase Tbl PackB
/-- What a row of a book may be. -/
def FitR (sl : Nat) (r : Tbl.Row) : Prop := (rP r).length = rN r ∧ rN r ≤ sl ∧ ∀ p ∈ rP r, 0 ≤ node p ∧ node p < 32 ∧ 0 ≤ gen p ∧ gen p < 4294967296
/-- Rows like others, in new blocks, while a reader at block g reads. -/
structure Got (w wr : World) (g : Nat) (l done : List Tbl.Row) (k : Nat) (O : Option Addr) (oc : Nat) : Prop where
  len : done.length = k
  prow : New w wr 186 1 O k oc (cellsL rowS done)
  alike : ∀ (i : Nat) (r r' : Tbl.Row), l[i]? = some r → done[i]? = some r' → Tbl.Alike r r' ∧ Tbl.RowNew w wr r'
  chg : Chg (fun i => i = g) w wr
theorem Got.step {w wr w2 : World} {g : Nat} {S : Nat → Prop} {l done : List Tbl.Row} {k oc : Nat} {O : Option Addr} (h : Got w wr g l done k O oc) (hg : g < w.heap.size) (hc : Chg S wr w2) (hS : ∀ i, S i → i = g) : Got w w2 g l done k O oc :=
  ⟨h.len, h.prow.chg hc fun i hi k => by have hi : w.heap.size ≤ i := hi; have := hS i k; omega, fun i r r' h1 h2 => ⟨(h.alike i r r' h1 h2).1, (h.alike i r r' h1 h2).2.chg hc fun i hi k => by have hi : w.heap.size ≤ i := hi; have := hS i k; omega⟩, h.chg.step hc fun i _ k => hS i k⟩
theorem Got.ext {w wr w2 : World} {g : Nat} {l done : List Tbl.Row} {k oc : Nat} {O : Option Addr} (h : Got w wr g l done k O oc) (he : Ext wr w2) : Got w w2 g l done k O oc :=
  ⟨h.len, h.prow.extNew he, fun i r r' h1 h2 => ⟨(h.alike i r r' h1 h2).1, Own.extNew (h.alike i r r' h1 h2).2 he⟩, chg_ext h.chg he⟩
set_option maxRecDepth 100000 in
set_option maxHeartbeats 8000000 in
theorem places_calls (g B sl : Nat) (l : List Tbl.Row) (xs : List Int) (w : World) (hr : ReaderB w g B (Le.le 1 l.length ++ (l.flatMap rowK ++ xs)) false) (hB : B ≤ w.heap.size) (hl : l.length ≤ 32) (hf : ∀ r ∈ l, FitR sl r) (hsl : sl ≤ 24) (hx : xs.length ≤ 100000) :
    Calls Try.prog 158 #[.pointer (some ⟨g, 0, none⟩)] w fun e w' => ∃ A' c' l', e = .returned (.slice A' l.length c') ∧ Got w w' g l l' l.length A' c' ∧ ReaderB w' g B xs false := by
  have HR := Lib.hid hr
  have HF := Lib.hid hf
  have hgl := hr.lt
  have HLEN : Hid (∀ k, ((l.drop k).flatMap rowK ++ xs).length ≤ 200000) := Lib.hid fun k => by
    have h1 := flat_le_mul rowK 121 (l.drop k) fun r hrm => by
      have h2 := hf r (List.mem_of_mem_drop hrm)
      have := rowK_len h2.1 h2.2.1
      omega
    have h3 : (l.drop k).length ≤ 32 := by rw [List.length_drop]; omega
    have h4 : (l.drop k).length * 121 ≤ 32 * 121 := Nat.mul_le_mul_right _ h3
    rw [List.length_append]
    omega
  have hl0 := HLEN.out 0
  rw [List.drop_zero] at hl0
  clear hr hf
  go_enter Try.func158, Try.ntmps158
  go_wp2_with fail
  refine (numB_calls g B (l.flatMap rowK ++ xs) false 1 (l.length : Nat) w HR.out (by decide) (by omega) (by omega) (by omega)).mono ?_
  rintro e w1 ⟨rfl, hr1, hc1⟩
  have HR1 : Hid (ReaderB w1 g B ((l.drop 0).flatMap rowK ++ xs) false) := Lib.hid (by rw [List.drop_zero]; exact hr1)
  have HG0 : Hid (Got w w1 g l [] 0 none 0) := Lib.hid ⟨rfl, Own.nil _ _ _ _, fun i r r' _ h => (by simp at h), hc1⟩
  clear hr1 hc1 HR
  go_wp2_with fail
  go_loopg [3, 7] l.length (fun q v i wr => ∃ k O oc, k ≤ l.length ∧ q = l.length - k ∧ i = .int .u64 (k : Nat) ∧ v = .slice O k oc ∧ Hid (∃ done, Got w wr g l done k O oc) ∧ Hid (ReaderB wr g B ((l.drop k).flatMap rowK ++ xs) false))
  case atStart => exact ⟨0, none, 0, Nat.zero_le _, rfl, rfl, rfl, Lib.hid ⟨[], HG0.out⟩, HR1⟩
  case round =>
    clear HG0 HR1
    obtain ⟨k, O, oc, hk, rfl, rfl, rfl, hrel, HR⟩ := hrel
    obtain ⟨done, hm⟩ := hrel.out
    have HM := Lib.hid hm
    clear hrel hm
    by_cases hlt : k < l.length
    · obtain ⟨r, hr0⟩ : ∃ r, l[k]? = some r := ⟨_, List.getElem?_eq_getElem hlt⟩
      have hdr : (l.drop k).flatMap rowK = rowK r ++ (l.drop (k + 1)).flatMap rowK := by rw [drop_at hr0]; rfl
      obtain ⟨q1, q2, q3⟩ := HF.out r (List.mem_of_getElem? hr0)
      have HP3 := Lib.hid q3
      have HQ1 := Lib.hid q1
      have HR0 := Lib.hid hr0
      have hread : ReaderB wr g B (Le.le 1 (rN r : Nat) ++ ((rP r).flatMap placeB ++ ((l.drop (k + 1)).flatMap rowK ++ xs))) false := by
        have := HR.out
        rw [hdr] at this
        simpa [rowK, rowB] using this
      have HREAD := Lib.hid hread
      have hlp := HLEN.out (k + 1)
      have hl5 : ((rP r).flatMap placeB).length ≤ 120 := by
        have h1 := flat_le_mul placeB 5 (rP r) fun p _ => by simp [placeB, Le.le_length]
        omega
      have hki : ((k : Nat) : Int) < ((l.length : Nat) : Int) := by omega
      clear hread hdr hr0 q3 q1 HR
      go_wp2_with fail
      refine (numB_calls g B ((rP r).flatMap placeB ++ ((l.drop (k + 1)).flatMap rowK ++ xs)) false 1 (rN r : Nat) wr HREAD.out (by decide) (by rw [List.length_append]; omega) (by omega) (by omega)).mono ?_
      rintro e wo ⟨rfl, hr2, hc2⟩
      obtain ⟨Z, hZ⟩ : ∃ Z, Z = (l.drop (k + 1)).flatMap rowK ++ xs := ⟨_, rfl⟩
      rw [← hZ] at hr2 hlp
      have HZ := Lib.hid hZ
      have HR2 : Hid (ReaderB wo g B (((rP r).drop 0).flatMap placeB ++ Z) false) := Lib.hid (by rw [List.drop_zero]; exact hr2)
      have HMO : Hid (Got w wo g l done k O oc) := Lib.hid (HM.out.step hgl hc2 fun i hi => hi)
      have hwo : w.heap.size ≤ wo.heap.size := HMO.out.chg.size
      clear hr2 hc2 HREAD HM hZ
      go_wp2_with fail
      go_loopg [4, 11] (rN r) (fun q v i wi => ∃ m X cx, m ≤ rN r ∧ q = rN r - m ∧ i = .int .u64 (m : Nat) ∧ v = .slice X m cx ∧ Hid (Chg (fun i => i = g) wo wi ∧ New wo wi 80 2 X m cx (cellsL plS ((rP r).take m))) ∧ Hid (ReaderB wi g B (((rP r).drop m).flatMap placeB ++ Z) false))
      case atStart => exact ⟨0, none, 0, Nat.zero_le _, rfl, rfl, rfl, Lib.hid ⟨Chg.refl _ _, Own.nil _ _ _ _⟩, HR2⟩
      case round =>
        clear HR2
        obtain ⟨wi, hwi⟩ : ∃ wi, wi = wr := ⟨_, rfl⟩
        subst hwi
        obtain ⟨m, X, cx, hm, rfl, rfl, rfl, hrel2, HRI⟩ := hrel
        obtain ⟨hei, hxi⟩ := hrel2.out
        have HEI := Lib.hid hei
        have HXI := Lib.hid hxi
        have hsi : wo.heap.size ≤ wi.heap.size := hei.size
        clear hrel2 hei hxi
        by_cases hlt2 : m < rN r
        · obtain ⟨p, hp⟩ : ∃ p, (rP r)[m]? = some p := ⟨_, List.getElem?_eq_getElem (by have := HQ1.out; omega)⟩
          have HPP := Lib.hid (HP3.out p (List.mem_of_getElem? hp))
          have HP := Lib.hid hp
          have hrd : ReaderB wi g B (Le.le 1 (node p) ++ (Le.le 4 (gen p) ++ (((rP r).drop (m + 1)).flatMap placeB ++ Z))) false := by
            have := HRI.out
            rw [drop_at hp] at this
            simpa [placeB] using this
          have HRD := Lib.hid hrd
          have hlz : (((rP r).drop (m + 1)).flatMap placeB).length ≤ 120 := by
            have h1 := flat_le_mul placeB 5 ((rP r).drop (m + 1)) fun p _ => by simp [placeB, Le.le_length]
            rw [List.length_drop] at h1
            have := HQ1.out
            omega
          have hlz2 : (((rP r).drop (m + 1)).flatMap placeB ++ Z).length ≤ 300000 := by rw [List.length_append]; omega
          have W0 : IntKind.i64.wrap (node p) = node p := IntWalk.i64_in _ (by have := HPP.out; omega)
          have W1 : IntKind.u32.wrap (gen p) = gen p := IntWalk.u32_in _ (by have := HPP.out; omega)
          have hmi : ((m : Nat) : Int) < ((rN r : Nat) : Int) := by omega
          clear hp hrd HRI
          go_wp2_with fail
          refine (numB_calls g B (Le.le 4 (gen p) ++ (((rP r).drop (m + 1)).flatMap placeB ++ Z)) false 1 (node p) wi HRD.out (by decide) (by rw [List.length_append, Le.le_length]; omega) (by have := HPP.out; omega) (by have := HPP.out; omega)).mono ?_
          rintro e w5 ⟨rfl, hr5, hc5⟩
          have HR5 := Lib.hid hr5
          have HC5 := Lib.hid hc5
          clear hr5 hc5 HRD
          go_wp2_with fail
          refine (numB_calls g B (((rP r).drop (m + 1)).flatMap placeB ++ Z) false 4 (gen p) w5 HR5.out (by decide) (by omega) (by have := HPP.out; omega) (by have := HPP.out; omega)).mono ?_
          rintro e w6 ⟨rfl, hr6, hc6⟩
          have HR6 := Lib.hid hr6
          have HC6 := Lib.hid (HC5.out.trans hc6)
          have hs6 : wi.heap.size ≤ w6.heap.size := HC6.out.size
          have hx6 : New wo w6 80 2 X m cx (cellsL plS ((rP r).take m)) := HXI.out.chg HC6.out fun i hi k => by have hi : wo.heap.size ≤ i := hi; have k : i = g := k; omega
          have HX6 := Lib.hid hx6
          clear hr6 hc6 HR5 HC5 hx6
          go_wp2_with (at_builtin; refine wpList_appE _ rfl _ _ _ rfl (fun i => wo.heap.size ≤ i) 80 _ 2 16 Try.underlying186 infoPlc rfl (by decide) (by decide) _ m (cellsL plS ((rP r).take m)) rfl (HX6.out.extNew (Ext.new w6 _)) w6.heap.size 1 [.int .i64 (node p), .int .u32 (gen p)] rfl rfl (fun j u hu => blk_cell (at_new w6 _) (Ext.refl _) (by simpa using hu)) (by simp [Value.oneCell']) (by omega) (fun i hi => Nat.le_trans (Nat.le_trans hsi hs6) (Nat.le_trans (by simp) hi)) ?_; intro A2 c2 w12 ho12 hc12)
          have hcat : cellsL plS ((rP r).take m) ++ [.int .i64 (node p), .int .u32 (gen p)] = cellsL plS ((rP r).take (m + 1)) := by
            rw [List.take_add_one, HP.out, cellsL_app]
            rfl
          rw [hcat] at ho12
          have hfo : ∀ i, some i = (Value.slice X m cx).ownBlock → wo.heap.size ≤ i := fun i hi => HX6.out.foot i hi.symm
          have HR12 : Hid (ReaderB w12 g B (((rP r).drop (m + 1)).flatMap placeB ++ Z) false) := Lib.hid ((HR6.out.ext (Ext.new w6 _)).chg hc12 fun i hi => by have := hfo i hi.symm; omega)
          have HE12 : Hid (Chg (fun i => i = g) wo w12) := Lib.hid (((HEI.out.trans HC6.out).trans (Below.chg (Ext.new w6 _))).step hc12 fun i hi k => by have := hfo i k.symm; omega)
          have HO12 := Lib.hid ho12
          clear ho12 hc12 hcat hfo HR6 HC6 HX6
          go_wp2_with fail
          go_roundg (rN r - (m + 1))
          case measure => omega
          case rel => exact ⟨m + 1, A2, c2, by omega, rfl, by first | rfl | go_num, rfl, Lib.hid ⟨HE12.out, HO12.out⟩, HR12⟩
        · obtain rfl : m = rN r := by omega
          have hxi : New wo wi 80 2 X (rN r) cx (cellsL plS (rP r)) := by
            have := HXI.out
            rwa [List.take_of_length_le (by rw [HQ1.out]; exact Nat.le_refl _)] at this
          have HXF := Lib.hid hxi
          have HRZ : Hid (ReaderB wi g B Z false) := Lib.hid (by
            have := HRI.out
            rw [List.drop_of_length_le (by rw [HQ1.out]; exact Nat.le_refl _)] at this
            simpa using this)
          have HMI : Hid (Got w wi g l done k O oc) := Lib.hid (HMO.out.step hgl HEI.out fun i hi => hi)
          clear hxi HRI
          go_wp2_with (at_builtin; refine wpList_appE _ rfl _ _ _ rfl (fun i => w.heap.size ≤ i) 186 _ 1 24 Try.underlying78 infoRw rfl (by decide) (by decide) _ k (cellsL rowS done) rfl (HMI.out.prow.extNew (Ext.new wi _)) wi.heap.size 1 [.slice X (rN r) cx] rfl rfl (fun j u hu => blk_cell (at_new wi _) (Ext.refl _) (by simpa using hu)) (by simp [Value.oneCell']) (by omega) (fun i hi => Nat.le_trans (Nat.le_trans hwo hsi) (Nat.le_trans (by simp) hi)) ?_; intro A2 c2 w12 ho12 hc12)
          have hnew := Ext.new wi (.cells #[.slice X (rN r) cx] 186)
          have hka := fun (i : Nat) (hi : (Value.slice O k oc).ownBlock = some i) => own_kind (HMI.out.prow.extNew hnew) hi
          have hkk : ∀ i, (Value.slice O k oc).ownBlock = some i → i < (wi.alloc (.cells #[.slice X (rN r) cx] 186)).heap.size → ∃ c e' f, (wi.alloc (.cells #[.slice X (rN r) cx] 186)).heap[i]? = some (.cells c e' f) ∧ 80 ≠ e' := fun i hi _ => by
            obtain ⟨c, f, hh⟩ := hka i hi
            exact ⟨c, _, f, hh, by decide⟩
          have hcat : cellsL rowS done ++ [.slice X (rN r) cx] = cellsL rowS (done ++ [mkRow X (rN r) cx (rP r)]) := by rw [cellsL_app]; rfl
          rw [hcat] at ho12
          have hfo : ∀ i, (Value.slice O k oc).ownBlock = some i → w.heap.size ≤ i := fun i hi => HMI.out.prow.foot i hi
          have hgot : Got w w12 g l (done ++ [mkRow X (rN r) cx (rP r)]) (k + 1) A2 c2 := by
            refine ⟨by simp [HMI.out.len], ho12, fun i r0 r' h0 h1 => ?_, (HMI.out.chg.trans (Below.chg hnew)).step hc12 fun i hi k => by have := hfo i k; omega⟩
            rcases Nat.lt_or_ge i done.length with hi | hi
            · rw [List.getElem?_append_left hi] at h1
              obtain ⟨k1, k2⟩ := HMI.out.alike i r0 r' h0 h1
              exact ⟨k1, Own.kind (Own.extNew k2 hnew) hc12 hkk⟩
            · rw [List.getElem?_append_right hi] at h1
              have hz : i - done.length = 0 := by have := (List.getElem?_eq_some_iff.1 h1).1; simp at this; omega
              rw [hz] at h1
              have h1 : mkRow X (rN r) cx (rP r) = r' := by simpa using h1
              subst h1
              have hik : i = k := by have := HMI.out.len; omega
              subst hik
              rw [HR0.out] at h0
              cases h0
              refine ⟨⟨rfl, rfl⟩, ?_⟩
              have : New wo w12 80 2 X (rN r) cx (cellsL plS (rP r)) := Own.kind (HXF.out.extNew hnew) hc12 hkk
              exact this.mono fun i _ hi => Nat.le_trans hwo hi
          have HGOT := Lib.hid hgot
          have HRN : Hid (ReaderB w12 g B ((l.drop (k + 1)).flatMap rowK ++ xs) false) := Lib.hid (by
            rw [← HZ.out]
            exact (HRZ.out.ext hnew).chg hc12 fun i hi => by have := hfo i hi; omega)
          clear hgot ho12 hc12 hcat hkk hka hnew hfo
          go_wp2_with fail
          go_roundg (l.length - (k + 1))
          case measure => omega
          case rel => exact ⟨k + 1, A2, c2, by omega, rfl, by first | rfl | go_num, rfl, Lib.hid ⟨_, HGOT.out⟩, HRN⟩
    · obtain rfl : k = l.length := by omega
      have HRX : Hid (ReaderB wr g B xs false) := Lib.hid (by
        have := HR.out
        rw [List.drop_length] at this
        simpa using this)
      go_wp2_with fail
      go_ret
      exact ⟨O, oc, done, rfl, HM.out, HRX.out⟩
end Go.Proofs.Ytipmkddcdnbihaa.Bk
/- An operation's bytes, walked: Op. -/
namespace Go.Proofs.Ytipmkddcdnbihaa.Bk
open Go.RowKit Base Step Vec Shape Erase Tbl
theorem u64_id {n : Int} (h0 : 0 ≤ n) (h1 : n < 18446744073709551616) : IntKind.u64.wrap n = n := IntWalk.u64_in _ ⟨h0, by omega⟩
/-- What is known while an operation is written: its box bo, the writer's block g. -/
structure OpW (w W : World) (o : Tbl.Op) (bo g : Nat) (xs : List Int) : Prop where
  ext : Ext w W
  box : W.heap[bo]? = some (.cells (opC o) 82 (0, 0))
  wr : Pack.Writer W (fun i => g ≤ i) g xs
  lt : bo < g
  ge : w.heap.size ≤ g
  gs : g ≤ W.heap.size
set_option maxRecDepth 100000 in
set_option maxHeartbeats 16000000 in
theorem op_calls (o : Tbl.Op) (sl : Nat) (w : World) (ho : OpAt w o) (hf : Fit sl o) (hsl : sl ≤ 24) :
    Calls Try.prog 94 #[opV o] w fun e w' => Ext w w' ∧ ∃ A c, e = .returned (.slice A (opB o).length c) ∧ New w w' 5 1 A (opB o).length c (nums .u8 (opB o)) := by
  obtain ⟨Q, hQ⟩ : ∃ Q : Ending → World → Prop, Q = fun e w' => Ext w w' ∧ ∃ A c, e = .returned (.slice A (opB o).length c) ∧ New w w' 5 1 A (opB o).length c (nums .u8 (opB o)) := ⟨_, rfl⟩
  have HQ : Hid (∀ e w', Ext w w' → (∃ A c, e = .returned (.slice A (opB o).length c) ∧ New w w' 5 1 A (opB o).length c (nums .u8 (opB o))) → Q e w') := Lib.hid fun e w' h1 h2 => by rw [hQ]; exact ⟨h1, h2⟩
  rw [← hQ]
  clear hQ
  have hb := at_new w (.cells (opC o) 82)
  have he1 := Ext.new w (.cells (opC o) 82)
  have hs1 : (w.alloc (.cells (opC o) 82)).heap.size = w.heap.size + 1 := by simp
  have HS1 := Lib.hid hs1
  have HO := Lib.hid ho
  have HF := Lib.hid hf
  have hk0 : 1 ≤ o.kind ∧ o.kind ≤ 4 := by rcases hf.kind with h | h | h | h <;> omega
  have K0 : IntKind.u64.wrap o.kind = o.kind := u64_id (by omega) (by omega)
  have N0 : IntKind.u64.wrap o.num = o.num := u64_id hf.num.1 (by have := hf.num.2; omega)
  have HK0 := Lib.hid hk0
  clear ho hf hk0 hs1
  go_enter Try.func94, Try.ntmps94
  go_upto_region 1 with fail
  generalize w.alloc (.cells (opC o) 82) = w1 at *
  go_upto_region 2 with fail
  have hwr := Pack.writer_new (fun i => w1.heap.size ≤ i) w1 (Nat.le_refl _)
  have he2 := Ext.new w1 (.cells #[.slice none 0 0] 190)
  have hb2 := he2.at_ hb
  have hs2 : (w1.alloc (.cells #[.slice none 0 0] 190)).heap.size = w1.heap.size + 1 := by simp
  generalize w1.alloc (.cells #[.slice none 0 0] 190) = w2 at *
  have HE2 := Lib.hid (he1.trans he2)
  generalize hg : w1.heap.size = g at *
  have hbg : w.heap.size < g := by have := HS1.out; omega
  generalize hbo : w.heap.size = bo at *
  have b0 : w2.cell? ⟨bo, 0, none⟩ = some (.int .i64 o.kind) := blk_cell (i := 0) hb2 (Ext.refl _) rfl
  have HB2 := Lib.hid hb2
  have HS2 : Hid (g ≤ w2.heap.size) := Lib.hid (by omega)
  have HBG : Hid (w.heap.size ≤ g) := Lib.hid (by omega)
  clear hb hb2 he1 he2 hs2 hg hbo HS1
  go_wp2_with fail
  refine (Pack.num_calls (fun i => g ≤ i) g [] o.kind 1 w2 (fun i hi => Nat.le_trans HS2.out hi) hwr (by decide) (by decide) (by have := HK0.out; omega) (by have := HK0.out; omega) (by simp)).mono ?_
  rintro e w3 ⟨rfl, hw3, hc3⟩
  have HW : Hid (OpW w w3 o bo g (Le.le 1 o.kind)) := Lib.hid ⟨HE2.out.chg hc3 fun i hi => Nat.le_trans HBG.out hi, hc3.at_ HB2.out fun k => by have k : g ≤ bo := k; omega, by simpa using hw3, hbg, HBG.out, Nat.le_trans HS2.out hc3.size⟩
  clear hw3 hc3 hwr b0 HE2 HB2 HS2
  have c0 : w3.cell? ⟨bo, 0, none⟩ = some (.int .i64 o.kind) := blk_cell (i := 0) HW.out.box (Ext.refl _) rfl
  have c1 : w3.cell? ⟨bo, 1, none⟩ = some (.int .u32 o.num) := blk_cell (i := 1) HW.out.box (Ext.refl _) rfl
  have c2 : w3.cell? ⟨bo, 2, none⟩ = some (.string o.name) := blk_cell (i := 2) HW.out.box (Ext.refl _) rfl
  by_cases h1 : o.kind = 1
  · have hk : (o.kind == 1) = true := by simp [h1]
    have HKK := Lib.hid h1
    clear h1
    go_wp2_with fail
    refine (Pack.num_calls (fun i => g ≤ i) g (Le.le 1 o.kind) o.num 4 w3 (fun i hi => by have := HW.out.gs; omega) HW.out.wr (by decide) (by decide) HF.out.num.1 (by have := HF.out.num.2; omega) (by simp [Le.le_length])).mono ?_
    rintro e w4 ⟨rfl, hw4, hc4⟩
    have HW4 : Hid (Pack.Writer w4 (fun i => g ≤ i) g (opB o)) := Lib.hid (by
      unfold opB
      rw [if_pos HKK.out]
      have := hw4
      rw [HKK.out] at this
      exact this)
    have HX4 := Lib.hid (HW.out.ext.chg hc4 fun i hi => Nat.le_trans HBG.out hi)
    clear hw4 hc4 c0 c1 c2 HW
    go_wp2_with fail
    refine (Pack.bytes_calls (fun i => g ≤ i) g (opB o) w4 HW4.out (by have := opB_len HF.out; omega)).mono ?_
    rintro e w9 ⟨A9, c9, rfl, ho9, hb9⟩
    have HO9 := Lib.hid ho9
    have HB9 := Lib.hid hb9
    clear ho9 hb9
    go_wp2_with fail
    exact HQ.out _ _ (HX4.out.trans HB9.out) ⟨A9, c9, rfl, HO9.out.mono fun i _ hi => Nat.le_trans HX4.out.size hi⟩
  by_cases h2 : o.kind = 2
  · have hk1 : (o.kind == 1) = false := by simp [h1]
    have hk : (o.kind == 2) = true := by simp [h2]
    have HKK := Lib.hid h2
    have hfn := HF.out.name (.inl h2)
    obtain ⟨l0, l1, p0, p1, hcn, hn32, hrl⟩ := HF.out.c2 h2
    have HRW := Lib.hid (HF.out.rows h2)
    have HRL := Lib.hid hrl
    clear h1 h2 hrl
    obtain ⟨X0, hX0⟩ : ∃ X0, X0 = Le.le 1 o.kind := ⟨_, rfl⟩
    rw [← hX0] at HW
    have hXl0 : X0.length = 1 := by rw [hX0, Le.le_length]
    have HX0 : Hid (X0 = Le.le 1 2) := Lib.hid (by rw [hX0, HKK.out])
    clear hX0
    go_upto_region 8 with fail
    obtain ⟨f0, hf0⟩ : ∃ f0 : Nat → Prop, f0 = fun i => g ≤ i ∧ i < w3.heap.size := ⟨_, rfl⟩
    have hfw : Pack.Writer w3 f0 g X0 := by rw [hf0]; exact writer_mono HW.out.wr fun i hi k => ⟨k, hi⟩
    have hcellA : ∀ W, Chg f0 w3.drew W → W.heap[bo]? = some (.cells (opC o) 82 (0, 0)) := fun W hW => hW.at_ (i := bo) (show w3.drew.heap[bo]? = _ from HW.out.box) (by rw [hf0]; exact fun k => by omega)
    have z1 : ∀ W, Chg f0 w3.drew W → W.cell? ⟨bo, 1, none⟩ = some (.int .u32 o.num) := fun W hW => blk_cell (i := 1) (hcellA W hW) (Ext.refl _) rfl
    have z2 : ∀ W, Chg f0 w3.drew W → W.cell? ⟨bo, 2, none⟩ = some (.string o.name) := fun W hW => blk_cell (i := 2) (hcellA W hW) (Ext.refl _) rfl
    have z3 : ∀ W, Chg f0 w3.drew W → W.cell? ⟨bo, 3, none⟩ = some (.int .i64 o.l) := fun W hW => blk_cell (i := 3) (hcellA W hW) (Ext.refl _) rfl
    have z5 : ∀ W, Chg f0 w3.drew W → W.cell? ⟨bo, 5, none⟩ = some (.int .i64 o.p) := fun W hW => blk_cell (i := 5) (hcellA W hW) (Ext.refl _) rfl
    have z6 : ∀ W, Chg f0 w3.drew W → W.cell? ⟨bo, 6, none⟩ = some (.slice o.A o.n o.cap) := fun W hW => blk_cell (i := 6) (hcellA W hW) (Ext.refl _) rfl
    have W1 : IntKind.u64.wrap o.l = o.l := u64_id (by omega) (by omega)
    have W2 : IntKind.u64.wrap o.p = o.p := u64_id (by omega) (by omega)
    have W3 : IntKind.u64.wrap ((o.n : Nat) : Int) = ((o.n : Nat) : Int) := u64_id (by omega) (by omega)
    have HFW := Lib.hid hfw
    have HB0 : Hid (∀ i, f0 i → (fun i => g ≤ i) i ∧ i < w3.drew.heap.size) := Lib.hid (by rw [hf0]; exact fun i hi => hi)
    have HP0 : Hid (∀ W, Chg f0 w3.drew W → ∀ i, W.heap.size ≤ i → g ≤ i) := Lib.hid fun W hW i hi => Nat.le_trans HW.out.gs (Nat.le_trans hW.size hi)
    have HCB := Lib.hid hcellA
    clear hfw hf0 c0 c1 c2 hcellA
    refine Lex.wp_region_rw [0, 1, 2, 3, 4, 5, 6, 7, 8, 9, 10, 11, 12, 13, 14, 15, 16, 17, 18, 19, 20, 21, 22, 23] [] f0 24 (wrR (fun i => g ≤ i) g X0) (.pointer (some ⟨g, 0, none⟩)) [(4, 24), (8, 4), (13, 8), (18, 13), (23, 18)] [(4, wrR (fun i => g ≤ i) g (X0 ++ Le.le 4 o.num)), (7, rdR o.name.size (bytesI o.name)), (8, wrR (fun i => g ≤ i) g (X0 ++ Le.le 4 o.num ++ textB o.name)), (13, wrR (fun i => g ≤ i) g (X0 ++ Le.le 4 o.num ++ textB o.name ++ Le.le 4 o.l)), (18, wrR (fun i => g ≤ i) g (X0 ++ Le.le 4 o.num ++ textB o.name ++ Le.le 4 o.l ++ Le.le 2 o.p)), (23, wrR (fun i => g ≤ i) g (comB o))] (by kernel_rfl) (by kernel_rfl) (by kernel_rfl) (by repeat (first | exact Lex.ok_nilR | refine Lex.ok_consR (by first | exact Lex.rowR_ok | exact Tbl.wrR_ok | exact Tbl.rdR_ok | assumption) ?_)) (by first | exact Tbl.wrR_ok | exact Lex.rowR_ok) ⟨Pack.Writer.chg HFW.out (S' := fun _ => False) (Chg.drew (Chg.refl _ _)) (fun _ _ k => k), HB0.out⟩ (fun i hi => (HB0.out i hi).2) ?_; simp only [Lex.pick, List.getElem?_cons_succ, List.getElem?_cons_zero, List.map_cons, List.map_nil]
    repeat (first | (refine Lex.lexR_skip (by rfl) ?_; simp only [Act.put, List.setIfInBounds_toArray, List.set_cons_zero, List.set_cons_succ]) | (refine Lex.lexR_still (by rfl) (by rfl) ?_; apply Exists.intro; refine ⟨fun W hW => ?_, ?_⟩; (have hE := hW; clear hW; go_simp; try with_reducible rfl); simp only [Act.put, List.setIfInBounds_toArray, List.set_cons_zero, List.set_cons_succ]))
    refine Lex.lexR_loose (by rfl) (by rfl) (fun W hW hAP => ?_) ?_
    · obtain ⟨hwr, hbb⟩ := (hW.2 24 (by kernel_rfl) rfl).2 rfl
      have hP := HP0.out W hW.1
      clear hW hAP
      go_simp
      exact wr_call hbb (fun i hi => ⟨24, by simp, .inr ⟨rfl, hi⟩⟩) hP (num_w hwr (by decide) (by decide) HF.out.num.1 (by have := HF.out.num.2; omega) (by omega) rfl)
    rintro v f1 rfl
    simp only [Act.put, List.setIfInBounds_toArray, List.set_cons_zero, List.set_cons_succ]
    repeat (first | (refine Lex.lexR_skip (by rfl) ?_; simp only [Act.put, List.setIfInBounds_toArray, List.set_cons_zero, List.set_cons_succ]) | (refine Lex.lexR_still (by rfl) (by rfl) ?_; apply Exists.intro; refine ⟨fun W hW => ?_, ?_⟩; (have hE := hW; clear hW; go_simp; try with_reducible rfl); simp only [Act.put, List.setIfInBounds_toArray, List.set_cons_zero, List.set_cons_succ]))
    refine Lex.lexR_loose (by rfl) (by rfl) (fun W hW hAP => ?_) ?_
    · clear hW hAP
      obtain ⟨cc, W', hrun, he, hrd, hlt⟩ := conv_str W o.name (by omega)
      go_simp
      exact ⟨⟨_, _, rfl⟩, Below.chg he, fun i => i = W.heap.size, fun A c e => by cases e; exact ⟨hrd, fun ad ha _ => by cases ha; rfl⟩, fun i hi => .inl (by have hi : i = W.heap.size := hi; subst hi; exact ⟨Nat.le_refl _, hlt⟩)⟩
    rintro v f2 ⟨A2, c2, rfl⟩
    simp only [Act.put, List.setIfInBounds_toArray, List.set_cons_zero, List.set_cons_succ]
    refine Lex.lexR_loose (by rfl) (by rfl) (fun W hW hAP => ?_) ?_
    · obtain ⟨hwr, hbb⟩ := (hW.2 4 (by kernel_rfl) rfl).1.2 rfl
      obtain ⟨hrd, hrf⟩ := (hW.2 7 (by kernel_rfl) rfl).2 rfl _ _ rfl
      have hsep : ∀ i, f1 i → ¬ f2 i := fun i h1 h2 => hAP 4 7 i (by kernel_rfl) rfl (by kernel_rfl) rfl (by decide) (.inl (.inr ⟨rfl, h1⟩)) (.inr ⟨rfl, h2⟩)
      have hP := HP0.out W hW.1
      clear hW hAP
      go_simp
      refine wr_call hbb (fun i hi => ⟨4, by simp, .inl (.inr ⟨rfl, hi⟩)⟩) hP ((wtext_calls (fun i => f1 i ∨ W.heap.size ≤ i) g (X0 ++ Le.le 4 o.num) A2 o.name.size c2 (bytesI o.name) W (fun i hi => .inr hi) (writer_mono hwr fun _ _ k => .inl k) hrd (fun ad ha h0 hS => ?_) (by simp [Le.le_length]; omega) (by omega)).mono fun e w' he => by simpa only [List.append_assoc, textB] using he)
      rcases hS with hS | hS
      · exact hsep _ hS (hrf ad ha h0)
      · subst ha
        have h1 := hrd.lt h0
        omega
    rintro v f3 rfl
    simp only [Act.put, List.setIfInBounds_toArray, List.set_cons_zero, List.set_cons_succ]
    repeat (first | (refine Lex.lexR_skip (by rfl) ?_; simp only [Act.put, List.setIfInBounds_toArray, List.set_cons_zero, List.set_cons_succ]) | (refine Lex.lexR_still (by rfl) (by rfl) ?_; apply Exists.intro; refine ⟨fun W hW => ?_, ?_⟩; (have hE := hW; clear hW; go_simp; try with_reducible rfl); simp only [Act.put, List.setIfInBounds_toArray, List.set_cons_zero, List.set_cons_succ]))
    refine Lex.lexR_loose (by rfl) (by rfl) (fun W hW hAP => ?_) ?_
    · obtain ⟨hwr, hbb⟩ := (hW.2 8 (by kernel_rfl) rfl).2 rfl
      have hP := HP0.out W hW.1
      clear hW hAP
      go_simp
      exact wr_call hbb (fun i hi => ⟨8, by simp, .inr ⟨rfl, hi⟩⟩) hP (num_w hwr (by decide) (by decide) l0 (by omega) (by simp [Le.le_length, textB, bytesI_len]; omega) (by simp only [List.append_assoc]; rfl))
    rintro v f4 rfl
    simp only [Act.put, List.setIfInBounds_toArray, List.set_cons_zero, List.set_cons_succ]
    repeat (first | (refine Lex.lexR_skip (by rfl) ?_; simp only [Act.put, List.setIfInBounds_toArray, List.set_cons_zero, List.set_cons_succ]) | (refine Lex.lexR_still (by rfl) (by rfl) ?_; apply Exists.intro; refine ⟨fun W hW => ?_, ?_⟩; (have hE := hW; clear hW; go_simp; try with_reducible rfl); simp only [Act.put, List.setIfInBounds_toArray, List.set_cons_zero, List.set_cons_succ]))
    refine Lex.lexR_loose (by rfl) (by rfl) (fun W hW hAP => ?_) ?_
    · obtain ⟨hwr, hbb⟩ := (hW.2 13 (by kernel_rfl) rfl).2 rfl
      have hP := HP0.out W hW.1
      clear hW hAP
      go_simp
      exact wr_call hbb (fun i hi => ⟨13, by simp, .inr ⟨rfl, hi⟩⟩) hP (num_w hwr (by decide) (by decide) (by omega) (by omega) (by simp [Le.le_length, textB, bytesI_len]; omega) (by simp only [List.append_assoc]; rfl))
    rintro v f5 rfl
    simp only [Act.put, List.setIfInBounds_toArray, List.set_cons_zero, List.set_cons_succ]
    repeat (first | (refine Lex.lexR_skip (by rfl) ?_; simp only [Act.put, List.setIfInBounds_toArray, List.set_cons_zero, List.set_cons_succ]) | (refine Lex.lexR_still (by rfl) (by rfl) ?_; apply Exists.intro; refine ⟨fun W hW => ?_, ?_⟩; (have hE := hW; clear hW; go_simp; try with_reducible rfl); simp only [Act.put, List.setIfInBounds_toArray, List.set_cons_zero, List.set_cons_succ]))
    refine Lex.lexR_loose (by rfl) (by rfl) (fun W hW hAP => ?_) ?_
    · obtain ⟨hwr, hbb⟩ := (hW.2 18 (by kernel_rfl) rfl).2 rfl
      have hP := HP0.out W hW.1
      clear hW hAP
      go_simp
      exact wr_call hbb (fun i hi => ⟨18, by simp, .inr ⟨rfl, hi⟩⟩) hP (num_w hwr (by decide) (by decide) (by omega) (by omega) (by simp [Le.le_length, textB, bytesI_len]; omega) (by simp [comB, HX0.out]))
    rintro v f6 rfl
    simp only [Act.put, List.setIfInBounds_toArray, List.set_cons_zero, List.set_cons_succ]
    repeat (first | (refine Lex.lexR_skip (by rfl) ?_; simp only [Act.put, List.setIfInBounds_toArray, List.set_cons_zero, List.set_cons_succ]) | (refine Lex.lexR_still (by rfl) (by rfl) ?_; apply Exists.intro; refine ⟨fun W hW => ?_, ?_⟩; (have hE := hW; clear hW; go_simp; try with_reducible rfl); simp only [Act.put, List.setIfInBounds_toArray, List.set_cons_zero, List.set_cons_succ]))
    refine Lex.lexR_nil (fun W hW hF => ?_)
    obtain ⟨hwr3, hbb3⟩ := (hF 23 rfl).2 rfl
    have HX4 : Hid (Ext w W) := Lib.hid (HW.out.ext.chg ((Chg.drew (Chg.refl _ _)).trans hW) fun i hi => by have := (HB0.out i hi).1; have := HW.out.ge; omega)
    have HW4 : Hid (OpW w W o bo g (comB o)) := Lib.hid ⟨HX4.out, HCB.out W hW, writer_mono hwr3 fun i _ hi => (hbb3 i hi).1, HW.out.lt, HW.out.ge, Nat.le_trans HW.out.gs hW.size⟩
    have x6 : W.cell? ⟨bo, 6, none⟩ = some (.slice o.A o.n o.cap) := blk_cell (i := 6) HW4.out.box (Ext.refl _) rfl
    clear hW hF hwr3 hbb3 z1 z2 z3 z5 z6 HFW HB0 HP0 HCB HW HX4
    refine Lex.onlyN_intro ?_
    have HRK := Lib.hid (HO.out.rows)
    have hXl : (comB o).length ≤ 78 := by simp [comB, textB, Le.le_length, bytesI_len]; omega
    go_wp2_with fail
    clear x6
    generalize hOA : o.A = OA at HRK ⊢
    go_loopg [53] o.n (fun q i wr => ∃ (k : Nat) (xs : List Int), k ≤ o.n ∧ q = o.n - k ∧ i = .int .i64 (k : Nat) ∧ xs.length ≤ 78 + k * 121 ∧ Hid (xs = comB o ++ (o.rows.take k).flatMap rowK) ∧ Hid (OpW w wr o bo g xs))
    case atStart => exact ⟨0, comB o, Nat.zero_le _, rfl, rfl, by omega, Lib.hid (by simp), HW4⟩
    case round =>
      clear HW4
      obtain ⟨k, xs, hk, rfl, rfl, hxl, HXS, HW⟩ := hrel
      by_cases hlt : k < o.n
      · obtain ⟨adp, r, rfl, hr0, hrow, hrok⟩ := row_at HRK.out hlt
        have hrc := HW.out.ext.cell_ hrow
        have hrm := List.mem_of_getElem? hr0
        obtain ⟨q1, q2, q3⟩ := HRW.out r hrm
        have HPE := Lib.hid q3
        have HROK := Lib.hid hrok
        have HR0 := Lib.hid hr0
        have hrcap : rN r ≤ rC r := (sl_len hrok).2.1
        have hki : ((k : Nat) : Int) < ((o.n : Nat) : Int) := by omega
        have W4 : IntKind.u64.wrap ((rN r : Nat) : Int) = ((rN r : Nat) : Int) := u64_id (by omega) (by omega)
        have HQ1 := Lib.hid q1
        clear hrow hrok hr0 hrm q3 q1
        go_wp2_with fail
        refine (Pack.num_calls (fun i => g ≤ i) g xs (rN r : Nat) 1 wr (fun i hi => Nat.le_trans HW.out.gs hi) HW.out.wr (by decide) (by decide) (by omega) (by omega) (by omega)).mono ?_
        rintro e w5 ⟨rfl, hw5, hc5⟩
        have HW5 : Hid (OpW w w5 o bo g (xs ++ Le.le 1 (rN r))) := Lib.hid ⟨HW.out.ext.chg hc5 fun i hi => by have hi : g ≤ i := hi; have := HW.out.ge; omega, hc5.at_ HW.out.box fun k => by have k : g ≤ bo := k; have := HW.out.lt; omega, hw5, HW.out.lt, HW.out.ge, Nat.le_trans HW.out.gs hc5.size⟩
        clear hw5 hc5 HW hrc
        go_wp2_with fail
        generalize hRA : rA r = RA at HROK ⊢
        go_loopg [64] (rN r) (fun q i wi => ∃ (m : Nat) (zs : List Int), m ≤ rN r ∧ q = rN r - m ∧ i = .int .i64 (m : Nat) ∧ zs.length ≤ 78 + k * 121 + 1 + m * 5 ∧ Hid (zs = xs ++ Le.le 1 (rN r) ++ ((rP r).take m).flatMap placeB) ∧ Hid (OpW w wi o bo g zs))
        case atStart => exact ⟨0, xs ++ Le.le 1 (rN r), Nat.zero_le _, rfl, rfl, by rw [List.length_append, Le.le_length]; omega, Lib.hid (by simp), HW5⟩
        case round =>
          clear HW5
          obtain ⟨m, zs, hm, rfl, rfl, hzl, HZS, HW⟩ := hrel
          by_cases hlt4 : m < rN r
          · obtain ⟨ap, p, rfl, hp, hp0, hp1, _, _⟩ := place_at HROK.out hlt4
            have HPP := Lib.hid (HPE.out p (List.mem_of_getElem? hp))
            have d0 := HW.out.ext.cell_ hp0
            have d1 := HW.out.ext.cell_ hp1
            have HP := Lib.hid hp
            have hmi : ((m : Nat) : Int) < ((rN r : Nat) : Int) := by omega
            have hgs : g ≤ wr.heap.size := HW.out.gs
            clear hp hp0 hp1
            go_upto_region 16 with (refine RowSt.wpList_put 80 _ _ rfl rfl rfl wr.heap.size #[.int .i64 (node p), .int .u32 (gen p)] rfl rfl 80 _ (at_new wr _) (by kernel_rfl) rfl (by simp [Value.oneCell']) ?_; intro w9 hb9 hc9)
            have hE9 : Ext wr w9 := (Ext.new wr _).chg hc9 fun i hi => by have hi : i = wr.heap.size := hi; omega
            have hbx : wr.heap.size < w9.heap.size := Pack.lt_of_at hb9
            have HX9 := Lib.hid (HW.out.ext.trans hE9)
            have HOB9 := Lib.hid (hE9.at_ HW.out.box)
            obtain ⟨f0, hf0⟩ : ∃ f0 : Nat → Prop, f0 = fun i => (g ≤ i ∧ i ≠ wr.heap.size) ∧ i < w9.heap.size := ⟨_, rfl⟩
            have hfw : Pack.Writer w9 f0 g zs := by
              have h1 : Pack.Writer wr f0 g zs := by rw [hf0]; exact writer_mono HW.out.wr fun i hi k => ⟨⟨k, by omega⟩, by omega⟩
              exact h1.chg (S' := fun _ => False) (Below.chg hE9) (fun _ _ k => k)
            have hcellB : ∀ W, Chg f0 w9.drew W → W.heap[wr.heap.size]? = some (.cells #[.int .i64 (node p), .int .u32 (gen p)] 80 (0, 0)) := fun W hW => hW.at_ (i := wr.heap.size) (show w9.drew.heap[wr.heap.size]? = _ from hb9) (by rw [hf0]; exact fun k => k.1.2 rfl)
            have HCO : Hid (∀ W, Chg f0 w9.drew W → W.heap[bo]? = some (.cells (opC o) 82 (0, 0))) := Lib.hid fun W hW => hW.at_ (i := bo) (show w9.drew.heap[bo]? = _ from HOB9.out) (by rw [hf0]; exact fun k => by have := HW.out.lt; omega)
            have z0 : ∀ W, Chg f0 w9.drew W → W.cell? ⟨wr.heap.size, 0, none⟩ = some (.int .i64 (node p)) := fun W hW => blk_cell (i := 0) (hcellB W hW) (Ext.refl _) rfl
            have z1 : ∀ W, Chg f0 w9.drew W → W.cell? ⟨wr.heap.size, 1, none⟩ = some (.int .u32 (gen p)) := fun W hW => blk_cell (i := 1) (hcellB W hW) (Ext.refl _) rfl
            have W5 : IntKind.u64.wrap (node p) = node p := IntWalk.u64_in _ (by have := HPP.out; omega)
            have W6 : IntKind.u64.wrap (gen p) = gen p := IntWalk.u64_in _ (by have := HPP.out; omega)
            have HFW := Lib.hid hfw
            have HB0 : Hid (∀ i, f0 i → (fun i => g ≤ i ∧ i ≠ wr.heap.size) i ∧ i < w9.drew.heap.size) := Lib.hid (by rw [hf0]; exact fun i hi => hi)
            have HP0 : Hid (∀ W, Chg f0 w9.drew W → ∀ i, W.heap.size ≤ i → g ≤ i ∧ i ≠ wr.heap.size) := Lib.hid fun W hW i hi => by have h1 : w9.heap.size ≤ W.heap.size := hW.size; exact ⟨by omega, by omega⟩
            clear hfw hb9 hc9 hf0 d0 d1 hcellB hE9
            refine Lex.wp_region_rw [0, 1, 2, 3, 4, 5, 6, 7, 8] [] f0 9 (wrR (fun i => g ≤ i ∧ i ≠ wr.heap.size) g zs) (.pointer (some ⟨g, 0, none⟩)) [(4, 9), (8, 4)] [(4, wrR (fun i => g ≤ i ∧ i ≠ wr.heap.size) g (zs ++ Le.le 1 (node p))), (8, wrR (fun i => g ≤ i ∧ i ≠ wr.heap.size) g (zs ++ placeB p))] (by kernel_rfl) (by kernel_rfl) (by kernel_rfl) (by repeat (first | exact Lex.ok_nilR | refine Lex.ok_consR (by first | exact Lex.rowR_ok | exact Tbl.wrR_ok | exact Tbl.rdR_ok | assumption) ?_)) (by first | exact Tbl.wrR_ok | exact Lex.rowR_ok) ⟨Pack.Writer.chg HFW.out (S' := fun _ => False) (Chg.drew (Chg.refl _ _)) (fun _ _ k => k), HB0.out⟩ (fun i hi => (HB0.out i hi).2) ?_; simp only [Lex.pick, List.getElem?_cons_succ, List.getElem?_cons_zero, List.map_cons, List.map_nil]
            repeat (first | (refine Lex.lexR_skip (by rfl) ?_; simp only [Act.put, List.setIfInBounds_toArray, List.set_cons_zero, List.set_cons_succ]) | (refine Lex.lexR_still (by rfl) (by rfl) ?_; apply Exists.intro; refine ⟨fun W hW => ?_, ?_⟩; (have hE := hW; clear hW; go_simp; try with_reducible rfl); simp only [Act.put, List.setIfInBounds_toArray, List.set_cons_zero, List.set_cons_succ]))
            refine Lex.lexR_loose (by rfl) (by rfl) (fun W hW hAP => ?_) ?_
            · obtain ⟨hwr, hbb⟩ := (hW.2 9 (by kernel_rfl) rfl).2 rfl
              have hP := HP0.out W hW.1
              clear hW hAP
              go_simp
              exact wr_call hbb (fun i hi => ⟨9, by simp, .inr ⟨rfl, hi⟩⟩) hP (num_w hwr (by decide) (by decide) HPP.out.1 (by have := HPP.out; omega) (by omega) rfl)
            rintro v f1 rfl
            simp only [Act.put, List.setIfInBounds_toArray, List.set_cons_zero, List.set_cons_succ]
            repeat (first | (refine Lex.lexR_skip (by rfl) ?_; simp only [Act.put, List.setIfInBounds_toArray, List.set_cons_zero, List.set_cons_succ]) | (refine Lex.lexR_still (by rfl) (by rfl) ?_; apply Exists.intro; refine ⟨fun W hW => ?_, ?_⟩; (have hE := hW; clear hW; go_simp; try with_reducible rfl); simp only [Act.put, List.setIfInBounds_toArray, List.set_cons_zero, List.set_cons_succ]))
            refine Lex.lexR_loose (by rfl) (by rfl) (fun W hW hAP => ?_) ?_
            · obtain ⟨hwr, hbb⟩ := (hW.2 4 (by kernel_rfl) rfl).2 rfl
              have hP := HP0.out W hW.1
              clear hW hAP
              go_simp
              exact wr_call hbb (fun i hi => ⟨4, by simp, .inr ⟨rfl, hi⟩⟩) hP (num_w hwr (by decide) (by decide) HPP.out.2.2.1 (by have := HPP.out; omega) (by simp [Le.le_length]; omega) (by simp [placeB]))
            rintro v f2 rfl
            simp only [Act.put, List.setIfInBounds_toArray, List.set_cons_zero, List.set_cons_succ]
            repeat (first | (refine Lex.lexR_skip (by rfl) ?_; simp only [Act.put, List.setIfInBounds_toArray, List.set_cons_zero, List.set_cons_succ]) | (refine Lex.lexR_still (by rfl) (by rfl) ?_; apply Exists.intro; refine ⟨fun W hW => ?_, ?_⟩; (have hE := hW; clear hW; go_simp; try with_reducible rfl); simp only [Act.put, List.setIfInBounds_toArray, List.set_cons_zero, List.set_cons_succ]))
            refine Lex.lexR_nil (fun W hW hF => ?_)
            obtain ⟨hwr3, hbb3⟩ := (hF 8 rfl).2 rfl
            have HW4 : Hid (OpW w W o bo g (zs ++ placeB p)) := Lib.hid ⟨HX9.out.chg ((Chg.drew (Chg.refl _ _)).trans hW) fun i hi => by have := (HB0.out i hi).1.1; have := HW.out.ge; omega, HCO.out W hW, writer_mono hwr3 fun i _ hi => (hbb3 i hi).1.1, HW.out.lt, HW.out.ge, by have h1 : w9.heap.size ≤ W.heap.size := hW.size; omega⟩
            clear hW hF hwr3 hbb3 z0 z1 HFW HB0 HP0 HCO HW HX9 HOB9
            refine Lex.onlyN_intro ?_
            go_wp2_with fail
            go_roundg (rN r - (m + 1))
            case measure => omega
            case rel => exact ⟨m + 1, zs ++ placeB p, by omega, rfl, by first | rfl | go_num, by simp [placeB, Le.le_length]; omega, Lib.hid (by rw [HZS.out, List.take_add_one, HP.out]; simp), HW4⟩
          · obtain rfl : m = rN r := by omega
            have HZ2 : Hid (zs = comB o ++ (o.rows.take (k + 1)).flatMap rowK) := Lib.hid (by
              rw [HZS.out, HXS.out, List.take_of_length_le (l := rP r) (Nat.le_of_eq HQ1.out), List.take_add_one, HR0.out]
              simp [rowK, rowB])
            go_wp2_with fail
            go_roundg (o.n - (k + 1))
            case measure => omega
            case rel => exact ⟨k + 1, zs, by omega, rfl, by first | rfl | go_num, by omega, HZ2, HW⟩
      · obtain rfl : k = o.n := by omega
        have HZ2 : Hid (xs = opB o) := Lib.hid (by
          rw [HXS.out, List.take_of_length_le (by rw [HRL.out]; exact Nat.le_refl _)]
          unfold opB
          rw [if_neg (by have := HKK.out; omega), if_pos HKK.out])
        rw [HZ2.out] at HW
        go_wp2_with fail
        refine (Pack.bytes_calls (fun i => g ≤ i) g (opB o) wr HW.out.wr (by have := opB_len HF.out; omega)).mono ?_
        rintro e w9 ⟨A9, c9, rfl, ho9, hb9⟩
        have HO9 := Lib.hid ho9
        have HB9 := Lib.hid hb9
        clear ho9 hb9
        go_wp2_with fail
        exact HQ.out _ _ (HW.out.ext.trans HB9.out) ⟨A9, c9, rfl, HO9.out.mono fun i _ hi => Nat.le_trans HW.out.ext.size hi⟩
  by_cases h3 : o.kind = 3
  · have hk1 : (o.kind == 1) = false := by simp [h1]
    have hk2 : (o.kind == 2) = false := by simp [h2]
    have hk : (o.kind == 3) = true := by simp [h3]
    have HKK := Lib.hid h3
    have hfn := HF.out.name (.inr h3)
    clear h1 h2 h3
    obtain ⟨cc, W', hrun, he, hrd, hlt⟩ := conv_str w3 o.name (by omega)
    have HE := Lib.hid he
    have HRD := Lib.hid hrd
    have HLT := Lib.hid hlt
    clear he hrd hlt
    go_wp2_with fail
    refine (wtext_calls (fun i => g ≤ i ∧ i ≠ w3.heap.size) g (Le.le 1 o.kind) _ o.name.size cc (bytesI o.name) W' (fun i hi => ⟨by have := HE.out.size; have := HW.out.gs; omega, by have := HLT.out; omega⟩) (writer_mono ((writer_mono HW.out.wr fun i hi k => (⟨k, by omega⟩ : g ≤ i ∧ i ≠ w3.heap.size)).below HE.out) fun _ _ k => k) HRD.out (fun ad ha _ hS => by cases ha; exact hS.2 rfl) (by simp [Le.le_length]) (by omega)).mono ?_
    rintro e w4 ⟨rfl, hw4, hc4⟩
    have HW4 : Hid (Pack.Writer w4 (fun i => g ≤ i) g (opB o)) := Lib.hid (by
      unfold opB
      rw [if_neg (by have := HKK.out; omega), if_neg (by have := HKK.out; omega), if_pos HKK.out]
      have := writer_mono hw4 (f' := fun i => g ≤ i) fun i _ k => k.1
      rw [HKK.out] at this
      exact this)
    have HX4 := Lib.hid ((HW.out.ext.trans HE.out).chg hc4 fun i hi => Nat.le_trans HBG.out hi.1)
    clear hw4 hc4 c0 c1 c2 HW
    go_wp2_with fail
    refine (Pack.bytes_calls (fun i => g ≤ i) g (opB o) w4 HW4.out (by have := opB_len HF.out; omega)).mono ?_
    rintro e w9 ⟨A9, c9, rfl, ho9, hb9⟩
    have HO9 := Lib.hid ho9
    have HB9 := Lib.hid hb9
    clear ho9 hb9
    go_wp2_with fail
    exact HQ.out _ _ (HX4.out.trans HB9.out) ⟨A9, c9, rfl, HO9.out.mono fun i _ hi => Nat.le_trans HX4.out.size hi⟩
  · have h4 : o.kind = 4 := by have := HK0.out; omega
    have hk1 : (o.kind == 1) = false := by simp [h1]
    have hk2 : (o.kind == 2) = false := by simp [h2]
    have hk3 : (o.kind == 3) = false := by simp [h3]
    have hk : (o.kind == 4) = true := by simp [h4]
    have HKK := Lib.hid h4
    obtain ⟨s0, s1, t0, t1, n0, n1, g0, g1⟩ := HF.out.c4 h4
    clear h1 h2 h3 h4
    obtain ⟨X0, hX0⟩ : ∃ X0, X0 = Le.le 1 o.kind := ⟨_, rfl⟩
    rw [← hX0] at HW
    have hXl0 : X0.length = 1 := by rw [hX0, Le.le_length]
    have HX0 : Hid (X0 = Le.le 1 4) := Lib.hid (by rw [hX0, HKK.out])
    clear hX0
    go_upto_region 22 with fail
    obtain ⟨f0, hf0⟩ : ∃ f0 : Nat → Prop, f0 = fun i => g ≤ i ∧ i < w3.heap.size := ⟨_, rfl⟩
    have hfw : Pack.Writer w3 f0 g X0 := by rw [hf0]; exact writer_mono HW.out.wr fun i hi k => ⟨k, hi⟩
    have hcellA : ∀ W, Chg f0 w3.drew W → W.heap[bo]? = some (.cells (opC o) 82 (0, 0)) := fun W hW => hW.at_ (i := bo) (show w3.drew.heap[bo]? = _ from HW.out.box) (by rw [hf0]; exact fun k => by omega)
    have z1 : ∀ W, Chg f0 w3.drew W → W.cell? ⟨bo, 1, none⟩ = some (.int .u32 o.num) := fun W hW => blk_cell (i := 1) (hcellA W hW) (Ext.refl _) rfl
    have z7 : ∀ W, Chg f0 w3.drew W → W.cell? ⟨bo, 7, none⟩ = some (.int .i64 o.stripe) := fun W hW => blk_cell (i := 7) (hcellA W hW) (Ext.refl _) rfl
    have z8 : ∀ W, Chg f0 w3.drew W → W.cell? ⟨bo, 8, none⟩ = some (.int .i64 o.slot) := fun W hW => blk_cell (i := 8) (hcellA W hW) (Ext.refl _) rfl
    have z9 : ∀ W, Chg f0 w3.drew W → W.cell? ⟨bo, 9, none⟩ = some (.int .i64 o.node) := fun W hW => blk_cell (i := 9) (hcellA W hW) (Ext.refl _) rfl
    have z10 : ∀ W, Chg f0 w3.drew W → W.cell? ⟨bo, 10, none⟩ = some (.int .u32 o.gen) := fun W hW => blk_cell (i := 10) (hcellA W hW) (Ext.refl _) rfl
    have W1 : IntKind.u64.wrap o.stripe = o.stripe := u64_id (by omega) (by omega)
    have W2 : IntKind.u64.wrap o.slot = o.slot := u64_id (by omega) (by omega)
    have W3 : IntKind.u64.wrap o.node = o.node := u64_id (by omega) (by omega)
    have W4 : IntKind.u64.wrap o.gen = o.gen := u64_id (by omega) (by omega)
    have HFW := Lib.hid hfw
    have HB0 : Hid (∀ i, f0 i → (fun i => g ≤ i) i ∧ i < w3.drew.heap.size) := Lib.hid (by rw [hf0]; exact fun i hi => hi)
    have HP0 : Hid (∀ W, Chg f0 w3.drew W → ∀ i, W.heap.size ≤ i → g ≤ i) := Lib.hid fun W hW i hi => Nat.le_trans HW.out.gs (Nat.le_trans hW.size hi)
    clear hfw hf0 c0 c1 c2 hcellA
    refine Lex.wp_region_rw [0, 1, 2, 3, 4, 5, 6, 7, 8, 9, 10, 11, 12, 13, 14, 15, 16, 17, 18, 19, 20, 21, 22] [] f0 23 (wrR (fun i => g ≤ i) g X0) (.pointer (some ⟨g, 0, none⟩)) [(4, 23), (8, 4), (12, 8), (17, 12), (22, 17)] [(4, wrR (fun i => g ≤ i) g (X0 ++ Le.le 4 o.num)), (8, wrR (fun i => g ≤ i) g (X0 ++ Le.le 4 o.num ++ Le.le 1 o.stripe)), (12, wrR (fun i => g ≤ i) g (X0 ++ Le.le 4 o.num ++ Le.le 1 o.stripe ++ Le.le 1 o.slot)), (17, wrR (fun i => g ≤ i) g (X0 ++ Le.le 4 o.num ++ Le.le 1 o.stripe ++ Le.le 1 o.slot ++ Le.le 1 o.node)), (22, wrR (fun i => g ≤ i) g (X0 ++ Le.le 4 o.num ++ Le.le 1 o.stripe ++ Le.le 1 o.slot ++ Le.le 1 o.node ++ Le.le 4 o.gen))] (by kernel_rfl) (by kernel_rfl) (by kernel_rfl) (by repeat (first | exact Lex.ok_nilR | refine Lex.ok_consR (by first | exact Lex.rowR_ok | exact Tbl.wrR_ok | exact Tbl.rdR_ok | assumption) ?_)) (by first | exact Tbl.wrR_ok | exact Lex.rowR_ok) ⟨Pack.Writer.chg HFW.out (S' := fun _ => False) (Chg.drew (Chg.refl _ _)) (fun _ _ k => k), HB0.out⟩ (fun i hi => (HB0.out i hi).2) ?_; simp only [Lex.pick, List.getElem?_cons_succ, List.getElem?_cons_zero, List.map_cons, List.map_nil]
    repeat (first | (refine Lex.lexR_skip (by rfl) ?_; simp only [Act.put, List.setIfInBounds_toArray, List.set_cons_zero, List.set_cons_succ]) | (refine Lex.lexR_still (by rfl) (by rfl) ?_; apply Exists.intro; refine ⟨fun W hW => ?_, ?_⟩; (have hE := hW; clear hW; go_simp; try with_reducible rfl); simp only [Act.put, List.setIfInBounds_toArray, List.set_cons_zero, List.set_cons_succ]))
    refine Lex.lexR_loose (by rfl) (by rfl) (fun W hW hAP => ?_) ?_
    · obtain ⟨hwr, hbb⟩ := (hW.2 23 (by kernel_rfl) rfl).2 rfl
      have hP := HP0.out W hW.1
      clear hW hAP
      go_simp
      exact wr_call hbb (fun i hi => ⟨23, by simp, .inr ⟨rfl, hi⟩⟩) hP (num_w hwr (by decide) (by decide) HF.out.num.1 (by have := HF.out.num.2; omega) (by omega) rfl)
    rintro v f1 rfl
    simp only [Act.put, List.setIfInBounds_toArray, List.set_cons_zero, List.set_cons_succ]
    repeat (first | (refine Lex.lexR_skip (by rfl) ?_; simp only [Act.put, List.setIfInBounds_toArray, List.set_cons_zero, List.set_cons_succ]) | (refine Lex.lexR_still (by rfl) (by rfl) ?_; apply Exists.intro; refine ⟨fun W hW => ?_, ?_⟩; (have hE := hW; clear hW; go_simp; try with_reducible rfl); simp only [Act.put, List.setIfInBounds_toArray, List.set_cons_zero, List.set_cons_succ]))
    refine Lex.lexR_loose (by rfl) (by rfl) (fun W hW hAP => ?_) ?_
    · obtain ⟨hwr, hbb⟩ := (hW.2 4 (by kernel_rfl) rfl).2 rfl
      have hP := HP0.out W hW.1
      clear hW hAP
      go_simp
      exact wr_call hbb (fun i hi => ⟨4, by simp, .inr ⟨rfl, hi⟩⟩) hP (num_w hwr (by decide) (by decide) (by omega) (by omega) (by simp [Le.le_length]; omega) (by simp only [List.append_assoc]; rfl))
    rintro v f2 rfl
    simp only [Act.put, List.setIfInBounds_toArray, List.set_cons_zero, List.set_cons_succ]
    repeat (first | (refine Lex.lexR_skip (by rfl) ?_; simp only [Act.put, List.setIfInBounds_toArray, List.set_cons_zero, List.set_cons_succ]) | (refine Lex.lexR_still (by rfl) (by rfl) ?_; apply Exists.intro; refine ⟨fun W hW => ?_, ?_⟩; (have hE := hW; clear hW; go_simp; try with_reducible rfl); simp only [Act.put, List.setIfInBounds_toArray, List.set_cons_zero, List.set_cons_succ]))
    refine Lex.lexR_loose (by rfl) (by rfl) (fun W hW hAP => ?_) ?_
    · obtain ⟨hwr, hbb⟩ := (hW.2 8 (by kernel_rfl) rfl).2 rfl
      have hP := HP0.out W hW.1
      clear hW hAP
      go_simp
      exact wr_call hbb (fun i hi => ⟨8, by simp, .inr ⟨rfl, hi⟩⟩) hP (num_w hwr (by decide) (by decide) (by omega) (by omega) (by simp [Le.le_length]; omega) (by simp only [List.append_assoc]; rfl))
    rintro v f3 rfl
    simp only [Act.put, List.setIfInBounds_toArray, List.set_cons_zero, List.set_cons_succ]
    repeat (first | (refine Lex.lexR_skip (by rfl) ?_; simp only [Act.put, List.setIfInBounds_toArray, List.set_cons_zero, List.set_cons_succ]) | (refine Lex.lexR_still (by rfl) (by rfl) ?_; apply Exists.intro; refine ⟨fun W hW => ?_, ?_⟩; (have hE := hW; clear hW; go_simp; try with_reducible rfl); simp only [Act.put, List.setIfInBounds_toArray, List.set_cons_zero, List.set_cons_succ]))
    refine Lex.lexR_loose (by rfl) (by rfl) (fun W hW hAP => ?_) ?_
    · obtain ⟨hwr, hbb⟩ := (hW.2 12 (by kernel_rfl) rfl).2 rfl
      have hP := HP0.out W hW.1
      clear hW hAP
      go_simp
      exact wr_call hbb (fun i hi => ⟨12, by simp, .inr ⟨rfl, hi⟩⟩) hP (num_w hwr (by decide) (by decide) (by omega) (by omega) (by simp [Le.le_length]; omega) (by simp only [List.append_assoc]; rfl))
    rintro v f4 rfl
    simp only [Act.put, List.setIfInBounds_toArray, List.set_cons_zero, List.set_cons_succ]
    repeat (first | (refine Lex.lexR_skip (by rfl) ?_; simp only [Act.put, List.setIfInBounds_toArray, List.set_cons_zero, List.set_cons_succ]) | (refine Lex.lexR_still (by rfl) (by rfl) ?_; apply Exists.intro; refine ⟨fun W hW => ?_, ?_⟩; (have hE := hW; clear hW; go_simp; try with_reducible rfl); simp only [Act.put, List.setIfInBounds_toArray, List.set_cons_zero, List.set_cons_succ]))
    refine Lex.lexR_loose (by rfl) (by rfl) (fun W hW hAP => ?_) ?_
    · obtain ⟨hwr, hbb⟩ := (hW.2 17 (by kernel_rfl) rfl).2 rfl
      have hP := HP0.out W hW.1
      clear hW hAP
      go_simp
      exact wr_call hbb (fun i hi => ⟨17, by simp, .inr ⟨rfl, hi⟩⟩) hP (num_w hwr (by decide) (by decide) (by omega) (by omega) (by simp [Le.le_length]; omega) (by simp only [List.append_assoc]; rfl))
    rintro v f5 rfl
    simp only [Act.put, List.setIfInBounds_toArray, List.set_cons_zero, List.set_cons_succ]
    repeat (first | (refine Lex.lexR_skip (by rfl) ?_; simp only [Act.put, List.setIfInBounds_toArray, List.set_cons_zero, List.set_cons_succ]) | (refine Lex.lexR_still (by rfl) (by rfl) ?_; apply Exists.intro; refine ⟨fun W hW => ?_, ?_⟩; (have hE := hW; clear hW; go_simp; try with_reducible rfl); simp only [Act.put, List.setIfInBounds_toArray, List.set_cons_zero, List.set_cons_succ]))
    refine Lex.lexR_nil (fun W hW hF => ?_)
    obtain ⟨hwr3, hbb3⟩ := (hF 22 rfl).2 rfl
    have HX4 : Hid (Ext w W) := Lib.hid (HW.out.ext.chg ((Chg.drew (Chg.refl _ _)).trans hW) fun i hi => by have := (HB0.out i hi).1; have := HW.out.ge; omega)
    have HW4 : Hid (Pack.Writer W (fun i => g ≤ i) g (opB o)) := Lib.hid (by
      unfold opB
      rw [if_neg (by have := HKK.out; omega), if_neg (by have := HKK.out; omega), if_neg (by have := HKK.out; omega), ← HX0.out]
      exact writer_mono hwr3 fun i _ hi => (hbb3 i hi).1)
    clear hW hF hwr3 hbb3 z1 z7 z8 z9 z10 HFW HB0 HP0 HW
    refine Lex.onlyN_intro ?_
    go_wp2_with fail
    refine (Pack.bytes_calls (fun i => g ≤ i) g (opB o) W HW4.out (by have := opB_len HF.out; omega)).mono ?_
    rintro e w9 ⟨A9, c9, rfl, ho9, hb9⟩
    have HO9 := Lib.hid ho9
    have HB9 := Lib.hid hb9
    clear ho9 hb9
    go_wp2_with fail
    exact HQ.out _ _ (HX4.out.trans HB9.out) ⟨A9, c9, rfl, HO9.out.mono fun i _ hi => Nat.le_trans HX4.out.size hi⟩
end Go.Proofs.Ytipmkddcdnbihaa.Bk
