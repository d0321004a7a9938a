/- Plain facts on shards in the first cells, as the law asks for them. -/
import Derived.Test.YtfhgjopoohfhjaaVaultL
namespace Go.Proofs.Ytfhgjopoohfhjaa.VaultW
open VaultP (Sh Shards nameB cellOf cellsOf place fine readV Whole found shOf)
open DiskP (readC puts put1 crash)
open Vault (foundN codeV shardOf dataOf)
theorem place_snoc (V : Shards) (p : Sh × List Int) : place (V ++ [p]) 0 = place V 0 ++ [(p.1, V.length)] := by
  simp [place, List.zipIdx_append]
theorem place_len (V : Shards) (c : Nat) : (place V c).length = V.length := by simp [place]
theorem place_fst (V : Shards) : (place V 0).map (·.1) = V.map (·.1) := by
  unfold place
  rw [List.map_map]
  apply List.ext_getElem?
  intro i
  simp
  rfl
theorem place_mem {V : Shards} {s : Sh} {c : Nat} : (s, c) ∈ place V 0 ↔ ∃ p, V[c]? = some p ∧ p.1 = s := by
  unfold place
  simp only [List.mem_map, Prod.mk.injEq]
  constructor
  · rintro ⟨⟨p, i⟩, h1, h2, h3⟩
    have h1 := List.mem_zipIdx_iff_getElem?.1 h1
    simp only at h1 h2 h3
    subst h3
    exact ⟨p, h1, h2⟩
  · rintro ⟨p, h1, h2⟩
    exact ⟨(p, c), List.mem_zipIdx_iff_getElem?.2 h1, h2, rfl⟩
theorem place_lt {V : Shards} {q : Sh × Nat} (h : q ∈ place V 0) : q.2 < V.length := by
  obtain ⟨s, c⟩ := q
  obtain ⟨p, h1, _⟩ := place_mem.1 h
  exact (List.getElem?_eq_some_iff.1 h1).1
theorem place_snd {V : Shards} {j : Nat} : j ∈ (place V 0).map (·.2) ↔ j < V.length := by
  constructor
  · intro h
    obtain ⟨q, h1, rfl⟩ := List.mem_map.1 h
    exact place_lt h1
  · intro h
    exact List.mem_map.2 ⟨(V[j].1, j), place_mem.2 ⟨V[j], List.getElem?_eq_getElem h, rfl⟩, rfl⟩
theorem cellsOf_len (V : Shards) : (cellsOf V).length = V.length := by simp [cellsOf]
theorem cellsOf_snoc (V : Shards) (p : Sh × List Int) : cellsOf (V ++ [p]) = cellsOf V ++ [cellOf p.1 p.2] := by simp [cellsOf]
theorem puts_one (V : Shards) (x : List Int) (h : V.length < 40) : puts (cellsOf V ++ List.replicate (40 - V.length) []) ([] ++ [((V.length : Int), x)]) = cellsOf V ++ x :: List.replicate (39 - V.length) [] := by
  show put1 _ _ = _
  unfold put1
  rw [Int.toNat_natCast, List.set_append_right _ _ (by rw [cellsOf_len]; omega), cellsOf_len, Nat.sub_self, show 40 - V.length = (39 - V.length) + 1 by omega, List.replicate_succ]
  rfl
theorem crash_nil (cells : List (List Int)) (k b : Int) : crash cells [] k b = cells := by
  unfold crash
  simp [puts]
theorem foundN_all {cells : List (List Int)} {V : Shards} {T : List (List Int)} (hc : cells = cellsOf V ++ T) (hf : fine V) (hT : ∀ xs ∈ T, readV xs = none) : foundN cells [] cells.length = place V 0 := by
  have h : (List.range cells.length).map (readC cells []) = cells := by
    apply List.ext_getElem
    · simp
    · intro i h1 h2
      simp only [List.getElem_map, List.getElem_range, Vault.readC_nil, List.getD_eq_getElem?_getD, List.getElem?_eq_getElem h2, Option.getD_some]
  unfold foundN
  rw [h, hc]
  exact VaultP.found_all V T hf hT
theorem read_cell {V : Shards} {T : List (List Int)} {i : Nat} {p : Sh × List Int} (hp : V[i]? = some p) : readC (cellsOf V ++ T) [] i = cellOf p.1 p.2 := by
  have hi := (List.getElem?_eq_some_iff.1 hp).1
  rw [Vault.readC_nil, List.getD_eq_getElem?_getD, List.getElem?_append_left (by rw [cellsOf_len]; exact hi)]
  simp [cellsOf, hp]
theorem cell_tells {s : Sh} {b : List Int} (hs : s.Ok) (hb : Le.U8s b) (hl : b.length ≤ 60000) : codeV (cellOf s b) = 0 ∧ shardOf (cellOf s b) = s ∧ dataOf (cellOf s b) = b := by
  have h := VaultP.readV_cell hs hb hl
  refine ⟨Vault.code_whole (VaultP.cellOf_whole s hb hl).1, ?_, ?_⟩
  · unfold shardOf
    rw [h]
  · unfold dataOf
    rw [h]
theorem fine_snoc {V : Shards} (h : fine V) {s : Sh} {b : List Int} (hs : s.Ok) (hb : Le.U8s b) (hl : b.length ≤ 60000) (hn : s ∉ V.map (·.1)) : fine (V ++ [(s, b)]) := by
  refine ⟨fun p hp => ?_, ?_⟩
  · rcases List.mem_append.1 hp with hp | hp
    · exact h.1 p hp
    · simp at hp
      subst hp
      exact ⟨hs, hb, hl⟩
  · rw [List.map_append, List.nodup_append]
    refine ⟨h.2, by simp, fun a ha b hb => ?_⟩
    simp at hb
    subst hb
    exact fun e => hn (e ▸ ha)
/-- A crash: shards in the first cells, nothing whole behind; one that was only begun is whole, or none. -/
theorem crash_ends (V : Shards) (h : fine V) (hv : V.length < 40) (s : Sh) (b : List Int) (hs : s.Ok) (hb : Le.U8s b) (hl : b.length ≤ 60000) (hn : s ∉ V.map (·.1)) (keep bytes : Int) :
    ∃ V' T, crash (cellsOf V ++ List.replicate (40 - V.length) []) ([] ++ [((V.length : Int), cellOf s b)]) keep bytes = cellsOf V' ++ T ∧ fine V' ∧ (∀ xs ∈ T, readV xs = none) ∧ (V' = V ∨ V' = V ++ [(s, b)]) := by
  have hr : List.replicate (40 - V.length) ([] : List Int) = [] :: List.replicate (39 - V.length) [] := by rw [show 40 - V.length = (39 - V.length) + 1 by omega, List.replicate_succ]
  obtain ⟨t, h1, h2⟩ := VaultP.crash_one V h (39 - V.length) s b hb hl keep bytes
  rw [hr, List.nil_append, h1]
  have hT : ∀ xs ∈ List.replicate (39 - V.length) ([] : List Int), readV xs = none := fun xs hx => by rw [(List.mem_replicate.1 hx).2]; exact VaultP.readV_nil
  rcases h2 with rfl | h2
  · exact ⟨V ++ [(s, b)], _, by rw [cellsOf_snoc, List.append_assoc]; rfl, fine_snoc h hs hb hl hn, hT, .inr rfl⟩
  · refine ⟨V, _, rfl, h, fun xs hx => ?_, .inl rfl⟩
    rcases List.mem_cons.1 hx with rfl | hx
    · exact h2
    · exact hT xs hx
end Go.Proofs.Ytfhgjopoohfhjaa.VaultW
