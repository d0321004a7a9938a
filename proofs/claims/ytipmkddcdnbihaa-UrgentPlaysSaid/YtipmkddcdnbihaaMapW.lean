/- A map of whole numbers by its entries, at the operations: range, next, a new key. No program in sight. -/
import Derived.Test.YtipmkddcdnbihaaMapIs
namespace Go.Proofs.Ytipmkddcdnbihaa.MapIs
open Go.RowKit Base Step Go.Maps
section
variable {P : Program} {k e : TypeId} {ops : Array Oper} {rest : List Oper} {o : Oper} {a : Act} {Q : Exit → Act → World → Prop}
theorem wpList_range_mp {t : TypeId} {w : World} {b : Nat} {l : List (Value × Int)} (h : Mp P k e w b l) (K : Keyed P k) (ht : P.underlying t = some (.map k e)) (hg : o.guard = none) (m : Operand) (hop : o.op = .range t m) (hm : a.eval m = .map (some b))
    (hK : ∀ w', Rg P k e w' b w.heap.size l (fun key => key ∈ l.map (·.1)) l.length → Ext w w' → wpList P ops Q rest (a.put o.dst (.pointer (some ⟨w.heap.size, 0, none⟩))) w') : wpList P ops Q (o :: rest) a w := by
  refine wpList_plain hg fun K' hK' => ?_
  obtain ⟨w', hrun, h1, h2⟩ := h.range K ht
  unfold Oper.wp
  simp [execOp, hop, hm, hrun, Result.andThen]
  exact hK' _ _ (hK w' h1 h2)
theorem wpList_next_rg {w : World} {b r : Nat} {l : List (Value × Int)} {todo : Value → Prop} {cnt : Nat} (h : Rg P k e w b r l todo cnt) (K : Keyed P k) (he : P.underlying e = some (.int .i64)) (hkeys : ∀ p ∈ l, ∃ kl, keyOf P k p.1 = some kl) (hg : o.guard = none) (it : Operand) (hop : o.op = .next it false)
    (hit : a.eval it = .pointer (some ⟨r, 0, none⟩))
    (hDone : cnt = 0 → (∀ p ∈ l, ¬ todo p.1) → wpList P ops Q rest (a.put o.dst (.tuple #[.bool false])) w)
    (hMore : ∀ p ∈ l, todo p.1 → ∀ w' cnt', Rg P k e w' b r l (fun x => todo x ∧ x ≠ p.1) cnt' → cnt' < cnt → Chg (fun i => i = r) w w' → (Instr.entry (.pointer (some ⟨r, 0, none⟩))).run P w' = .ok (.tuple #[p.1, .int .i64 p.2]) w' → wpList P ops Q rest (a.put o.dst (.tuple #[.bool true, p.1, .int .i64 p.2])) w') : wpList P ops Q (o :: rest) a w := by
  refine wpList_plain hg fun K' hK' => ?_
  unfold Oper.wp
  rcases h.next K he hkeys o.type with ⟨h1, h2, hrun⟩ | ⟨p, hp, ht, w', cnt', hrun, h1, h2, h3, h4⟩
  · simp [execOp, hop, hit, hrun, Result.andThen]
    exact hK' _ _ (hDone h1 h2)
  · simp [execOp, hop, hit, hrun, Result.andThen]
    exact hK' _ _ (hMore p hp ht w' cnt' h1 h2 h3 h4)
theorem wpList_put_mp {t : TypeId} {w : World} {b : Nat} {l : List (Value × Int)} (h : Mp P k e w b l) (K : Keyed P k) (ht : P.underlying t = some (.map k e)) (he : P.underlying e = some (.int .i64)) (hl : l.length < maxLen) (hg : o.guard = none) (m x y : Operand) (hop : o.op = .mapUpdate t m x y)
    {key : Value} {kl : Lit} {c : Int} (hm : a.eval m = .map (some b)) (hx : a.eval x = key) (hy : a.eval y = .int .i64 c) (hkl : keyOf P k key = some kl) (hmem : key ∉ l.map (·.1)) (hc : (Lit.int .i64 c).wf = true)
    (hK : ∀ w', Mp P k e w' b (l ++ [(key, c)]) → Chg (fun i => i = b) w w' → wpList P ops Q rest (a.put o.dst undef) w') : wpList P ops Q (o :: rest) a w := by
  refine wpList_plain hg fun K' hK' => ?_
  obtain ⟨w', hrun, h1, h2⟩ := h.put K ht he hl hkl hmem hc
  unfold Oper.wp
  simp [execOp, hop, hm, hx, hy, hrun, Result.andThen]
  exact hK' _ _ (hK w' h1 h2)
end
end Go.Proofs.Ytipmkddcdnbihaa.MapIs
