/- Plain facts about vaults: shards in cells, each with its sum; what is found behind a crash. No program in sight. -/
import Derived.Test.YtipmkddcdnbihaaFrame
import Derived.Test.YtipmkddcdnbihaaDiskP
namespace Go.Proofs.Ytipmkddcdnbihaa.VaultP
open Frm DiskP
open Le (le of)
/-- A shard's name. -/
structure Sh where
  o : Int
  st : Int
  sl : Int
  g : Int
deriving DecidableEq
structure Sh.Ok (s : Sh) : Prop where
  o0 : 0 ≤ s.o
  o1 : s.o < 4294967296
  st0 : 0 ≤ s.st
  st1 : s.st < 65536
  sl0 : 0 ≤ s.sl
  sl1 : s.sl < 65536
  g0 : 0 ≤ s.g
  g1 : s.g < 4294967296
def nameB (s : Sh) : List Int := le 4 s.o ++ le 2 s.st ++ le 2 s.sl ++ le 4 s.g
def shOf (xs : List Int) : Sh := ⟨of (xs.take 4), of ((xs.drop 4).take 2), of ((xs.drop 6).take 2), of ((xs.drop 8).take 4)⟩
theorem nameB_length (s : Sh) : (nameB s).length = 12 := by simp [nameB, Le.le_length]
theorem nameB_u8 (s : Sh) : Le.U8s (nameB s) := by
  intro x hx
  simp only [nameB, List.mem_append] at hx
  rcases hx with ((h | h) | h) | h
  · exact Le.le_u8 4 _ x h
  · exact Le.le_u8 2 _ x h
  · exact Le.le_u8 2 _ x h
  · exact Le.le_u8 4 _ x h
theorem shOf_name {s : Sh} (h : s.Ok) (b : List Int) : shOf (nameB s ++ b) = s := by
  obtain ⟨o, st, sl, g⟩ := s
  obtain ⟨h1, h2, h3, h4, h5, h6, h7, h8⟩ := h
  dsimp only at h1 h2 h3 h4 h5 h6 h7 h8
  have e : nameB ⟨o, st, sl, g⟩ ++ b = le 4 o ++ (le 2 st ++ (le 2 sl ++ (le 4 g ++ b))) := by simp [nameB]
  have d4 : (nameB ⟨o, st, sl, g⟩ ++ b).drop 4 = le 2 st ++ (le 2 sl ++ (le 4 g ++ b)) := by rw [e, drop_app (Le.le_length _ _)]
  have d6 : (nameB ⟨o, st, sl, g⟩ ++ b).drop 6 = le 2 sl ++ (le 4 g ++ b) := by rw [show (6 : Nat) = 4 + 2 from rfl, ← List.drop_drop, d4, drop_app (Le.le_length _ _)]
  have d8 : (nameB ⟨o, st, sl, g⟩ ++ b).drop 8 = le 4 g ++ b := by rw [show (8 : Nat) = 6 + 2 from rfl, ← List.drop_drop, d6, drop_app (Le.le_length _ _)]
  unfold shOf
  rw [d4, d6, d8, e, take_app (Le.le_length _ _), take_app (Le.le_length _ _), take_app (Le.le_length _ _), take_app (Le.le_length _ _), Le.of_le_lt 4 o h1 (by omega), Le.of_le_lt 2 st h3 (by omega), Le.of_le_lt 2 sl h5 (by omega), Le.of_le_lt 4 g h7 (by omega)]
/-- A shard in a cell. -/
def cellOf (s : Sh) (b : List Int) : List Int := frame 1 (nameB s ++ b)
theorem cellOf_length (s : Sh) (b : List Int) : (cellOf s b).length = 24 + b.length := by simp [cellOf, frame_length, nameB_length]; omega
/-- A cell in which a whole shard is. -/
structure Whole (xs : List Int) : Prop where
  form : form xs
  good : good xs
  kind : kOf xs = 1
  load : 12 ≤ (loadOf xs).length
  all : 12 + nOf xs = xs.length
open Classical in
noncomputable def readV (xs : List Int) : Option (Sh × List Int) := if Whole xs then some (shOf (loadOf xs), (loadOf xs).drop 12) else none
theorem readV_yes {xs : List Int} (h : Whole xs) : readV xs = some (shOf (loadOf xs), (loadOf xs).drop 12) := by unfold readV; rw [if_pos h]
theorem readV_no {xs : List Int} (h : ¬ Whole xs) : readV xs = none := by unfold readV; rw [if_neg h]
theorem cell_u8 {s : Sh} {b : List Int} (h : Le.U8s b) : Le.U8s (nameB s ++ b) := fun x hx => (List.mem_append.1 hx).elim (nameB_u8 s x) (h x)
theorem cellOf_whole (s : Sh) {b : List Int} (h : Le.U8s b) (hl : b.length ≤ 60000) : Whole (cellOf s b) ∧ loadOf (cellOf s b) = nameB s ++ b := by
  obtain ⟨h1, h2, h3, h4, h5⟩ := open_frame 1 (nameB s ++ b) [] (by omega) (by omega) (cell_u8 h) (by rw [List.length_append, nameB_length]; omega)
  rw [List.append_nil] at h1 h2 h3 h4 h5
  have hc := cellOf_length s b
  refine ⟨⟨h1, h2, h3, ?_, ?_⟩, h5⟩
  · show 12 ≤ (loadOf (frame 1 (nameB s ++ b))).length
    rw [h5, List.length_append, nameB_length]; omega
  · show 12 + nOf (frame 1 (nameB s ++ b)) = _
    rw [h4, List.length_append, nameB_length, hc]; omega
/-- What was written is read. -/
theorem readV_cell {s : Sh} (hs : s.Ok) {b : List Int} (h : Le.U8s b) (hl : b.length ≤ 60000) : readV (cellOf s b) = some (s, b) := by
  obtain ⟨hw, e⟩ := cellOf_whole s h hl
  rw [readV_yes hw, e, shOf_name hs, drop_app (nameB_length s)]
theorem readV_nil : readV [] = none := readV_no fun h => by have := h.form.1; simp at this
/-- A beginning of a shard's cell bears none. -/
theorem readV_torn (s : Sh) {b : List Int} (h : Le.U8s b) (hl : b.length ≤ 60000) {t : Nat} (ht : t < 24 + b.length) : readV ((cellOf s b).take t) = none := by
  refine readV_no fun hw => ?_
  have hc := cellOf_length s b
  have htl : ((cellOf s b).take t).length = t := by rw [List.length_take]; omega
  have h12 := hw.form.1
  have hn := hw.form.2.2.2
  rw [htl] at h12 hn
  have e8 : ((cellOf s b).take t).take 8 = (cellOf s b).take 8 := by rw [List.take_take, Nat.min_eq_left (by omega)]
  have en : ∀ xs : List Int, nOf xs = Le.of ((xs.take 8).drop 4) := fun xs => by
    unfold nOf
    rw [List.drop_take]
  obtain ⟨_, _, _, o4, _⟩ := open_frame 1 (nameB s ++ b) [] (by omega) (by omega) (cell_u8 h) (by rw [List.length_append, nameB_length]; omega)
  rw [List.append_nil] at o4
  have o4' : nOf (cellOf s b) = ((nameB s ++ b).length : Int) := o4
  rw [en, e8, ← en, o4', List.length_append, nameB_length] at hn
  omega
/-! ### Which shards a disk has -/
/-- What is found, cell by cell, of those that are there twice the first. -/
noncomputable def found : Nat → List (List Int) → List (Sh × Nat) → List (Sh × Nat)
  | _, [], l => l
  | c, xs :: rest, l => found (c + 1) rest (match readV xs with
    | none => l
    | some (s, _) => if s ∈ l.map (·.1) then l else l ++ [(s, c)])
/-- Shards in the first cells. -/
abbrev Shards := List (Sh × List Int)
def fine (V : Shards) : Prop := (∀ p ∈ V, p.1.Ok ∧ Le.U8s p.2 ∧ p.2.length ≤ 60000) ∧ (V.map (·.1)).Nodup
def cellsOf (V : Shards) : List (List Int) := V.map fun p => cellOf p.1 p.2
def place (V : Shards) (c : Nat) : List (Sh × Nat) := V.zipIdx c |>.map fun p => (p.1.1, p.2)
theorem found_none : ∀ (T : List (List Int)) (c : Nat) (l : List (Sh × Nat)), (∀ xs ∈ T, readV xs = none) → found c T l = l
  | [], _, _, _ => rfl
  | xs :: T, c, l, h => by
    unfold found
    rw [h xs List.mem_cons_self]
    exact found_none T (c + 1) l fun y hy => h y (List.mem_cons_of_mem _ hy)
theorem found_hit {xs : List Int} {rest : List (List Int)} {c : Nat} {l : List (Sh × Nat)} {s : Sh} {b : List Int} (h : readV xs = some (s, b)) (hs : s ∉ l.map (·.1)) : found c (xs :: rest) l = found (c + 1) rest (l ++ [(s, c)]) := by
  rw [found, h]
  simp only [if_neg hs]
theorem found_cells : ∀ (V : Shards) (T : List (List Int)) (c : Nat) (l : List (Sh × Nat)), (∀ p ∈ V, p.1.Ok ∧ Le.U8s p.2 ∧ p.2.length ≤ 60000) → (l.map (·.1) ++ V.map (·.1)).Nodup → found c (cellsOf V ++ T) l = found (c + V.length) T (l ++ place V c)
  | [], T, c, l, _, _ => by simp [cellsOf, place]
  | p :: V, T, c, l, h, hn => by
    obtain ⟨h1, h2, h3⟩ := h p List.mem_cons_self
    have hp : p.1 ∉ l.map (·.1) := fun hm => by
      have := (List.nodup_append.1 hn).2.2 p.1 hm p.1 (by simp)
      exact this rfl
    show found c (cellOf p.1 p.2 :: (cellsOf V ++ T)) l = _
    rw [found_hit (readV_cell h1 h2 h3) hp, found_cells V T (c + 1) (l ++ [(p.1, c)]) (fun q hq => h q (List.mem_cons_of_mem _ hq)) (by simpa using hn)]
    simp only [place, List.zipIdx_cons, List.map_cons, List.length_cons, List.append_assoc, List.cons_append, List.nil_append]
    rw [show c + 1 + V.length = c + (V.length + 1) by omega]
/-- A disk that bears shards in its first cells, and nothing whole behind, bears these. -/
theorem found_all (V : Shards) (T : List (List Int)) (h : fine V) (hT : ∀ xs ∈ T, readV xs = none) : found 0 (cellsOf V ++ T) [] = place V 0 := by
  rw [found_cells V T 0 [] h.1 (by simpa using h.2), found_none T _ _ hT]
  simp
/-! ### A crash -/
theorem cut_le1 (n : Int) : cutN n 1 = 0 ∨ cutN n 1 = 1 := by have := cutN_le n 1; omega
/-- One shard begun behind others, and a crash: it is whole, or what is left of it is none. -/
theorem crash_one (V : Shards) (h : fine V) (n : Nat) (s : Sh) (b : List Int) (hb : Le.U8s b) (hl : b.length ≤ 60000) (keep bytes : Int) :
    ∃ t, crash (cellsOf V ++ [] :: List.replicate n []) [((V.length : Int), cellOf s b)] keep bytes = cellsOf V ++ t :: List.replicate n [] ∧ (t = cellOf s b ∨ readV t = none) := by
  have hlen : (cellsOf V).length = V.length := by simp [cellsOf]
  have hput : ∀ x, put1 (cellsOf V ++ [] :: List.replicate n []) ((V.length : Int), x) = cellsOf V ++ x :: List.replicate n [] := fun x => by
    unfold put1
    rw [Int.toNat_natCast, List.set_append_right _ _ (by omega), hlen, Nat.sub_self]
    rfl
  have hget : (cellsOf V ++ [] :: List.replicate n []).getD V.length ([] : List Int) = [] := by
    rw [List.getD_eq_getElem?_getD, List.getElem?_append_right (by omega), hlen, Nat.sub_self]
    rfl
  unfold crash
  rcases cut_le1 keep with hk | hk
  · simp only [List.length_singleton, hk, List.take_zero, puts, List.foldl_nil, List.getElem?_cons_zero]
    refine ⟨torn [] (cellOf s b) bytes, ?_, ?_⟩
    · rw [Int.toNat_natCast, hget, hput]
    · unfold torn
      rw [List.drop_nil, List.append_nil]
      have hc := cellOf_length s b
      by_cases ht : cutN bytes (cellOf s b).length < 24 + b.length
      · exact .inr (readV_torn s hb hl ht)
      · exact .inl (List.take_of_length_le (by omega))
  · refine ⟨cellOf s b, ?_, .inl rfl⟩
    simp only [List.length_singleton, hk]
    show put1 _ _ = _
    exact hput _
end Go.Proofs.Ytipmkddcdnbihaa.VaultP
