/- A queue's Drop: walked. -/
import Derived.Test.YtipmkddcdnbihaaUrgE
namespace Go.Proofs.Ytipmkddcdnbihaa.MapIs
open Go.RowKit Base Step Go.Maps
section
variable {P : Program} {k e : TypeId} {ops : Array Oper} {rest : List Oper} {o : Oper} {a : Act} {Q : Exit → Act → World → Prop}
theorem wpList_del_mp {t : TypeId} {w : World} {b : Nat} {l : List (Value × Int)} (h : Mp P k e w b l) (K : Keyed P k) (ht : P.underlying t = some (.map k e)) (hg : o.guard = none) (m x : Operand) (hop : o.op = .call { callee := .builtin .delete, args := #[m, x], argTypes := #[t, k] })
    {key : Value} (hm : a.eval m = .map (some b)) (hx : a.eval x = key) (hmem : key ∈ l.map (·.1))
    (hK : ∀ w', Mp P k e w' b (delK l key) → Chg (fun i => i = b) w w' → wpList P ops Q rest (a.put o.dst (.tuple #[])) w') : wpList P ops Q (o :: rest) a w := by
  refine wpList_plain hg fun K' hK' => ?_
  obtain ⟨w', hrun, h1, h2⟩ := h.del K ht hmem o.type
  unfold Oper.wp
  simp [execOp, hop, resolve, invoke, builtin, hm, hx, hrun, Result.andThen]
  exact hK' _ _ (hK w' h1 h2)
end
end Go.Proofs.Ytipmkddcdnbihaa.MapIs
namespace Go.Proofs.Ytipmkddcdnbihaa.Urg
open Go.RowKit Base Step MapIs Vec
open UrgP
theorem at_last {l : List Job} {i : Nat} (h : i + 1 = l.length) : l = l.take i ++ [at_ l i] := by
  have hi : i < l.length := by omega
  have h1 := List.take_append_drop i l
  have h2 : l.drop i = [at_ l i] := by
    rw [List.drop_eq_getElem_cons hi, List.drop_of_length_le (by omega)]
    have := at_get hi
    rw [List.getElem?_eq_getElem hi] at this
    rw [Option.some.inj this]
  rw [h2] at h1
  exact h1.symm
/-- What is left when a job has been taken away. -/
theorem drop_perm {l : List Job} {i n : Nat} (hn : n + 1 = l.length) (hi : i < l.length) (hk : (l.map UrgP.key).Nodup) : ((swp l i n).take n).Perm (without l (UrgP.key (at_ l i))) := by
  have hnl : n < l.length := by omega
  have h1 := at_last (l := swp l i n) (i := n) (by rw [swp_len]; exact hn)
  rw [swp_at hi hnl hnl, if_pos rfl] at h1
  have h2 : (swp l i n).Perm (at_ l i :: (swp l i n).take n) := by
    rw [h1, List.take_append_of_le_length (by rw [List.length_take, swp_len]; omega), List.take_take, Nat.min_self]
    exact List.perm_append_singleton _ _
  have h3 := without_set (at_ l i) hk hi
  have h4 : l.set i (at_ l i) = l := by
    apply List.ext_getElem?
    intro k
    rw [List.getElem?_set]
    by_cases hik : i = k
    · subst hik; rw [if_pos rfl, if_pos hi, at_get hi]
    · rw [if_neg hik]
  rw [h4] at h3
  exact (List.perm_cons _).1 ((h2.symm.trans (swp_perm hi hnl)).trans h3)
theorem drop_G {l : List Job} {i n : Nat} (hn : n + 1 = l.length) (hi : i < n) (h : UrgP.Heap l) : G ((swp l i n).take n) i := by
  have : (swp l i n).take n = (l.set i (at_ l n)).take n := by
    unfold swp
    rw [List.take_set_of_le (Nat.le_refl _)]
  rw [this]
  exact (h.set i _).take (by rw [List.length_set]; omega)
theorem drop_heap {l : List Job} {n : Nat} (hn : n + 1 = l.length) (h : UrgP.Heap l) : UrgP.Heap ((swp l n n).take n) := by
  have hnl : n < l.length := by omega
  intro c c0 c1
  have hl : ((swp l n n).take n).length = n := by rw [List.length_take, swp_len]; omega
  rw [hl] at c1
  have hp : (c - 1) / 2 < n := by omega
  show UrgP.ahead (at_ _ c) (at_ _ ((c - 1) / 2)) = false
  rw [at_take c1, at_take hp, swp_at hnl hnl (by omega), swp_at hnl hnl (by omega), if_neg (by omega), if_neg (by omega), if_neg (by omega), if_neg (by omega)]
  exact h c c0 (by omega)
/-- Where each stands, one taken away. -/
theorem ents_take {l : List Job} {n : Nat} (hn : n + 1 = l.length) (hk : (l.map keyV).Nodup) : (∀ x, x ∈ (ents (l.take n)).map (·.1) ↔ x ∈ (delK (ents l) (keyV (at_ l n))).map (·.1)) ∧ (∀ p ∈ ents (l.take n), p ∈ delK (ents l) (keyV (at_ l n))) ∧ ((ents (l.take n)).map (·.1)).Nodup ∧ (ents (l.take n)).length = (delK (ents l) (keyV (at_ l n))).length := by
  have hl := at_last hn
  have hln : (l.take n).length = n := by rw [List.length_take]; omega
  have he : ents l = ents (l.take n) ++ [(keyV (at_ l n), (n : Int))] := by
    have := ents_snoc (l.take n) (at_ l n)
    rw [← hl, hln] at this
    exact this
  have hk2 : ((ents (l.take n)).map (·.1) ++ [keyV (at_ l n)]).Nodup := by
    have h1 : ((ents l).map (·.1)).Nodup := by rw [ents_keys]; exact hk
    rw [he, List.map_append] at h1
    exact h1
  have hno : keyV (at_ l n) ∉ (ents (l.take n)).map (·.1) := fun hm => (List.nodup_append.1 hk2).2.2 _ hm _ (by simp) rfl
  have hd : delK (ents l) (keyV (at_ l n)) = ents (l.take n) := by
    classical
    rw [he]
    unfold delK
    rw [List.filter_append, List.filter_cons_of_neg (by simp), List.filter_nil, List.append_nil, List.filter_eq_self]
    intro p hp
    rw [decide_eq_true_eq]
    exact fun e => hno (e ▸ List.mem_map.2 ⟨p, hp, rfl⟩)
  rw [hd]
  exact ⟨fun _ => Iff.rfl, fun _ h => h, (List.nodup_append.1 hk2).1, rfl⟩
end Go.Proofs.Ytipmkddcdnbihaa.Urg
