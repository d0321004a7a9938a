/- Rows spliced: copy and clear at elements of whatever size, by blocks. No program in sight. -/
import Derived.Test.YtipmkddcdnbihaaVec
import Derived.Laws.CopyRow
import Derived.Lib.AppendZerosOnto
import Derived.Lib.Overlaps
namespace Go.Proofs.Ytipmkddcdnbihaa.Splice
open Go.RowKit Base Step Vec
/-- Cells with some set from o on. -/
def putAt (xs : List Value) (o : Nat) (ys : List Value) : List Value := xs.take o ++ ys ++ xs.drop (o + ys.length)
theorem putAt_length {xs ys : List Value} {o : Nat} (h : o + ys.length ≤ xs.length) : (putAt xs o ys).length = xs.length := by
  simp only [putAt, List.length_append, List.length_take, List.length_drop]
  omega
theorem setRow_chg (w : World) (g : Nat) (C : Array Value) : Chg (fun i => i = g) w (w.setRow g C) := ⟨rfl, rfl, rfl, by simp, fun i _ h => setRow_other w g i C h⟩
/-- A row that stands in a block. -/
theorem own_blk {w : World} {S : Nat → Prop} {e : TypeId} {size g n c : Nat} {cur : Array Value} (h : w.heap[g]? = some (.cells cur e (0, 0))) (hn : n ≤ c) (hc : c ≤ maxLen) (hs : cur.size = c * size) (hS : S g) : Own w S e size (.slice (some ⟨g, 0, none⟩) n c) n (cur.toList.take (n * size)) :=
  ⟨⟨by rw [List.length_take]; have := Nat.mul_le_mul_right size hn; simp; omega, .inr ⟨g, c, cur, rfl, Nat.zero_le _, h, hn, hc, hs, rfl⟩⟩, fun k hk => by simp [Value.ownBlock] at hk; subst hk; exact hS⟩
/-- A row's block. -/
theorem blk_own {w : World} {S : Nat → Prop} {e : TypeId} {size n c : Nat} {ad : Addr} {xs : List Value} (h : Own w S e size (.slice (some ad) n c) n xs) : ∃ g cur, ad = ⟨g, 0, none⟩ ∧ w.heap[g]? = some (.cells cur e (0, 0)) ∧ n ≤ c ∧ c ≤ maxLen ∧ cur.size = c * size ∧ cur.toList.take (n * size) = xs ∧ S g ∧ xs.length = n * size := by
  have hf := h.foot _ rfl
  rcases h.row.2 with ⟨h1, h2⟩ | ⟨g, cap, cur, h1, h2, h3, h4, h5, h6, h7⟩
  · cases h1
  · cases h1
    exact ⟨g, cur, rfl, h3, h4, h5, h6, h7, hf, h.row.1⟩
theorem own_none {w : World} {S : Nat → Prop} {e : TypeId} {size n c : Nat} {xs : List Value} (h : Own w S e size (.slice none n c) n xs) : n = 0 ∧ c = 0 ∧ xs = [] := by
  rcases h.row.2 with ⟨h1, h2⟩ | ⟨g, cap, cur, h1, _⟩
  · cases h1
    have := h.row.1
    rw [h2, Nat.zero_mul] at this
    exact ⟨h2, rfl, List.eq_nil_of_length_eq_zero this⟩
  · cases h1
theorem add_zero_ (g o : Nat) : ∀ j, (⟨g, o, none⟩ : Addr).add j = ⟨g, o + j, none⟩ := fun j => by unfold Addr.add; split <;> simp_all
theorem cell_blk {w : World} {g : Nat} {cur : Array Value} {e : TypeId} (h : w.heap[g]? = some (.cells cur e (0, 0))) {j : Nat} {u : Value} (hu : cur.toList[j]? = some u) : w.cell? ⟨g, j, none⟩ = some u := by
  unfold World.cell?
  rw [h]
  simpa using hu
section
variable {P : Program}
theorem run_copy_k (w : World) (dT sT ty elem : TypeId) (g o dLen dCap : Nat) (A : Option Addr) (sLen sCap : Nat) (cur : Array Value) (t : TypeId) (cs : List Value) (size m : Nat)
    (hu : P.underlying dT = some (.slice elem)) (hs : (P.info? elem).map (·.size) = some size) (hg : w.heap[g]? = some (.cells cur t (0, 0))) (hm : Nat.min sLen dLen = m) (hn : cs.length = m * size)
    (hA : A = none → cs = []) (hsrc : ∀ a, A = some a → ∀ j v, cs[j]? = some v → w.cell? (a.add j) = some v) (hfit : o + cs.length ≤ cur.size) (h1 : ∀ v ∈ cs, v.oneCell' = true) :
    (Builtin.copy_ #[dT, sT] ty #[.slice (some ⟨g, o, none⟩) dLen dCap, .slice A sLen sCap]).run P w = .ok (goInt m) (w.setRow g (putAt cur.toList o cs).toArray) := by
  have hst := run_storeCells_at P g o t cs 0 cur w hg (by simpa using hfit) h1
  have hf : (Builtin.firstCells size m (.slice A sLen sCap)).run P w = .ok cs.toArray w := by
    rcases A with _ | a
    · rw [hA rfl]
      exact run_firstCells_none w size m sLen sCap
    · exact run_firstCells_some w size m a sLen sCap cs hn (hsrc a rfl)
  cases hq : P.info? elem with
  | none => simp [hq] at hs
  | some i =>
    have hi : i.size = size := by simpa [hq] using hs
    simp only [Nat.add_zero] at hst
    simp [Builtin.copy_, run_underlying hu, Builtin.lenOf, sizeOf, typeInfo, hq, hi, hm, hf, hst, putAt]
theorem wpList_copyB {ops : Array Oper} {rest : List Oper} {o : Oper} {a : Act} {Q : Exit → Act → World → Prop} (w : World) (hgd : Region.wanted o (yielded ops a.tmps) = true) (d s : Operand) (t : TypeId)
    (ho : o.op = .call { callee := .builtin .copy, args := #[d, s], argTypes := #[t, t] }) (e : TypeId) (size : Nat) (ht : P.underlying t = some (.slice e)) (hs : (P.info? e).map (·.size) = some size)
    (g off dLen dCap : Nat) (hd : a.eval d = .slice (some ⟨g, off, none⟩) dLen dCap) (A : Option Addr) (sLen sCap : Nat) (hx : a.eval s = .slice A sLen sCap) (cur : Array Value) (T : TypeId) (hg : w.heap[g]? = some (.cells cur T (0, 0)))
    (m : Nat) (hm : Nat.min sLen dLen = m) (cs : List Value) (hn : cs.length = m * size) (hA : A = none → cs = []) (hsrc : ∀ a, A = some a → ∀ j v, cs[j]? = some v → w.cell? (a.add j) = some v) (hfit : off + cs.length ≤ cur.size) (h1 : ∀ v ∈ cs, v.oneCell' = true)
    (h : ∀ w', w'.heap[g]? = some (.cells (putAt cur.toList off cs).toArray T (0, 0)) → Chg (fun i => i = g) w w' → wpList P ops Q rest (a.put o.dst (goInt m)) w') : wpList P ops Q (o :: rest) a w := by
  refine wpList_step fun K hK => ?_
  rw [if_pos hgd]
  have hrun := run_copy_k (P := P) w t t o.type e g off dLen dCap A sLen sCap cur T cs size m ht hs hg hm hn hA hsrc hfit h1
  unfold Oper.wp execOp
  simp only [ho, resolve, invoke, builtin, Sem.run_bind, Sem.run_pure, Result.andThen_ok, List.map_toArray, List.map_cons, List.map_nil, hd, hx, hrun]
  exact hK _ _ (h _ (setRow_heap w g cur _ T (0, 0) hg) (setRow_chg w g _))
theorem step_copyB {ops : Array Oper} {o : Oper} {a : Act} {K : Act → World → Prop} {Q : Exit → Act → World → Prop} {E : Prop} (w : World) (hgd : o.guard = none) (d s : Operand) (t : TypeId)
    (ho : o.op = .call { callee := .builtin .copy, args := #[d, s], argTypes := #[t, t] }) (e : TypeId) (size : Nat) (ht : P.underlying t = some (.slice e)) (hs : (P.info? e).map (·.size) = some size)
    (g off dLen dCap : Nat) (hd : a.eval d = .slice (some ⟨g, off, none⟩) dLen dCap) (A : Option Addr) (sLen sCap : Nat) (hx : a.eval s = .slice A sLen sCap) (cur : Array Value) (T : TypeId) (hg : w.heap[g]? = some (.cells cur T (0, 0)))
    (m : Nat) (hm : Nat.min sLen dLen = m) (cs : List Value) (hn : cs.length = m * size) (hA : A = none → cs = []) (hsrc : ∀ a, A = some a → ∀ j v, cs[j]? = some v → w.cell? (a.add j) = some v) (hfit : off + cs.length ≤ cur.size) (h1 : ∀ v ∈ cs, v.oneCell' = true)
    (hK : K (a.put o.dst (goInt m)) (w.setRow g (putAt cur.toList off cs).toArray)) : if Region.wanted o (yielded ops a.tmps) = true then Oper.wp P o a w K Q else E := by
  have hw : Region.wanted o (yielded ops a.tmps) = true := by simp [Region.wanted, hgd]
  rw [if_pos hw]
  have hrun := run_copy_k (P := P) w t t o.type e g off dLen dCap A sLen sCap cur T cs size m ht hs hg hm hn hA hsrc hfit h1
  unfold Oper.wp execOp
  simp only [ho, resolve, invoke, builtin, Sem.run_bind, Sem.run_pure, Result.andThen_ok, List.map_toArray, List.map_cons, List.map_nil, hd, hx, hrun]
  exact hK
theorem run_append_in (w : World) (t ty elem : TypeId) (g n c : Nat) (A : Option Addr) (m c2 : Nat) (cur : Array Value) (T : TypeId) (cs : List Value) (size : Nat)
    (hu : P.underlying t = some (.slice elem)) (hs : (P.info? elem).map (·.size) = some size) (hg : w.heap[g]? = some (.cells cur T (0, 0))) (hn : cs.length = m * size) (hroom : n + m ≤ c)
    (hA : A = none → cs = []) (hsrc : ∀ a, A = some a → ∀ j v, cs[j]? = some v → w.cell? (a.add j) = some v) (hfit : n * size + cs.length ≤ cur.size) (h1 : ∀ v ∈ cs, v.oneCell' = true) :
    (Builtin.append_ #[t, t] ty #[.slice (some ⟨g, 0, none⟩) n c, .slice A m c2]).run P w = .ok (.slice (some ⟨g, 0, none⟩) (n + m) c) (w.setRow g (putAt cur.toList (n * size) cs).toArray) := by
  have hst := run_storeCells_at P g (n * size) T cs 0 cur w hg (by simpa using hfit) h1
  have hf : (Builtin.firstCells size m (.slice A m c2)).run P w = .ok cs.toArray w := by
    rcases A with _ | a
    · rw [hA rfl]
      exact run_firstCells_none w size m m c2
    · exact run_firstCells_some w size m a m c2 cs hn (hsrc a rfl)
  cases hq : P.info? elem with
  | none => simp [hq] at hs
  | some i =>
    have hi : i.size = size := by simpa [hq] using hs
    have hadd : (⟨g, 0, none⟩ : Addr).add (n * size) = ⟨g, n * size, none⟩ := by rw [add_zero_, Nat.zero_add]
    simp only [Nat.add_zero] at hst
    simp [Builtin.append_, run_underlying hu, Builtin.lenOf, sizeOf, typeInfo, hq, hi, hroom, hf, hadd, hst, putAt]
theorem step_append_in {ops : Array Oper} {o : Oper} {a : Act} {K : Act → World → Prop} {Q : Exit → Act → World → Prop} {E : Prop} (w : World) (hgd : o.guard = none) (d s : Operand) (t : TypeId)
    (ho : o.op = .call { callee := .builtin .append, args := #[d, s], argTypes := #[t, t] }) (e : TypeId) (size : Nat) (ht : P.underlying t = some (.slice e)) (hs : (P.info? e).map (·.size) = some size)
    (g n c : Nat) (hd : a.eval d = .slice (some ⟨g, 0, none⟩) n c) (A : Option Addr) (m c2 : Nat) (hx : a.eval s = .slice A m c2) (cur : Array Value) (T : TypeId) (hg : w.heap[g]? = some (.cells cur T (0, 0)))
    (cs : List Value) (hn : cs.length = m * size) (hroom : n + m ≤ c) (hA : A = none → cs = []) (hsrc : ∀ a, A = some a → ∀ j v, cs[j]? = some v → w.cell? (a.add j) = some v) (hfit : n * size + cs.length ≤ cur.size) (h1 : ∀ v ∈ cs, v.oneCell' = true)
    (hK : K (a.put o.dst (.slice (some ⟨g, 0, none⟩) (n + m) c)) (w.setRow g (putAt cur.toList (n * size) cs).toArray)) : if Region.wanted o (yielded ops a.tmps) = true then Oper.wp P o a w K Q else E := by
  have hw : Region.wanted o (yielded ops a.tmps) = true := by simp [Region.wanted, hgd]
  rw [if_pos hw]
  have hrun := run_append_in (P := P) w t o.type e g n c A m c2 cur T cs size ht hs hg hn hroom hA hsrc hfit h1
  unfold Oper.wp execOp
  simp only [ho, resolve, invoke, builtin, Sem.run_bind, Sem.run_pure, Result.andThen_ok, List.map_toArray, List.map_cons, List.map_nil, hd, hx, hrun]
  exact hK
/-- Zero cells, so many. -/
theorem zeroCells_size (z : Array Value) (m : Nat) : (Builtin.zeroCells z m).size = m * z.size := by simp [Builtin.zeroCells]
theorem zeroCells_one {z : Array Value} {m : Nat} (hz : ∀ u ∈ z, u.oneCell' = true) : ∀ v ∈ (Builtin.zeroCells z m).toList, v.oneCell' = true := fun v hv => by
  simp only [Builtin.zeroCells, Array.toList_map, List.mem_map, Array.toList_range, List.mem_range] at hv
  obtain ⟨i, hi, rfl⟩ := hv
  have hp : 0 < z.size := Nat.pos_of_ne_zero fun h => by rw [h] at hi; omega
  have hlt : i % z.size < z.size := Nat.mod_lt _ hp
  rw [getElem!_pos z _ hlt]
  exact hz _ (Array.getElem_mem hlt)
theorem run_clear_k (w : World) (t ty elem : TypeId) (g o m c : Nat) (cur : Array Value) (T : TypeId) (z : Value) (size : Nat) (hm : 0 < m)
    (hu : P.underlying t = some (.slice elem)) (hs : (P.info? elem).map (fun i => (i.zero, i.size)) = some (some z, size)) (hzs : z.cells.size = size) (hg : w.heap[g]? = some (.cells cur T (0, 0))) (hfit : o + m * size ≤ cur.size) (h1 : ∀ u ∈ z.cells, u.oneCell' = true) :
    (Builtin.clear_ #[t] ty #[.slice (some ⟨g, o, none⟩) m c]).run P w = .ok (.tuple #[]) (w.setRow g (putAt cur.toList o (Builtin.zeroCells z.cells m).toList).toArray) := by
  have hst := run_storeCells_at P g o T (Builtin.zeroCells z.cells m).toList 0 cur w hg (by simp [zeroCells_size, hzs]; exact hfit) (zeroCells_one h1)
  obtain ⟨k, rfl⟩ : ∃ k, m = k + 1 := ⟨m - 1, by omega⟩
  cases hq : P.info? elem with
  | none => simp [hq] at hs
  | some i =>
    have hi : i.zero = some z := by simp [hq] at hs; exact hs.1
    simp only [Nat.add_zero] at hst
    simp [Builtin.clear_, run_underlying hu, zeroValue, typeInfo, hq, hi, hst, putAt]
theorem wpList_clearB {ops : Array Oper} {rest : List Oper} {o : Oper} {a : Act} {Q : Exit → Act → World → Prop} (w : World) (hgd : Region.wanted o (yielded ops a.tmps) = true) (d : Operand) (t : TypeId)
    (ho : o.op = .call { callee := .builtin .clear, args := #[d], argTypes := #[t] }) (e : TypeId) (z : Value) (size : Nat) (ht : P.underlying t = some (.slice e)) (hs : (P.info? e).map (fun i => (i.zero, i.size)) = some (some z, size)) (hzs : z.cells.size = size)
    (g off m c : Nat) (hd : a.eval d = .slice (some ⟨g, off, none⟩) m c) (hm : 0 < m) (cur : Array Value) (T : TypeId) (hg : w.heap[g]? = some (.cells cur T (0, 0))) (hfit : off + m * size ≤ cur.size) (h1 : ∀ u ∈ z.cells, u.oneCell' = true)
    (h : ∀ w', w'.heap[g]? = some (.cells (putAt cur.toList off (Builtin.zeroCells z.cells m).toList).toArray T (0, 0)) → Chg (fun i => i = g) w w' → wpList P ops Q rest (a.put o.dst (.tuple #[])) w') : wpList P ops Q (o :: rest) a w := by
  refine wpList_step fun K hK => ?_
  rw [if_pos hgd]
  have hrun := run_clear_k (P := P) w t o.type e g off m c cur T z size hm ht hs hzs hg hfit h1
  unfold Oper.wp execOp
  simp only [ho, resolve, invoke, builtin, Sem.run_bind, Sem.run_pure, Result.andThen_ok, List.map_toArray, List.map_cons, List.map_nil, hd, hrun]
  exact hK _ _ (h _ (setRow_heap w g cur _ T (0, 0) hg) (setRow_chg w g _))
/-- A struct is stored somewhere in a block. -/
theorem wpList_storeB {ops : Array Oper} {rest : List Oper} {o : Oper} {a : Act} {w : World} {Q : Exit → Act → World → Prop} (ty : TypeId) (x y : Operand) (hgd : Region.wanted o (yielded ops a.tmps) = true) (ho : o.op = .store ty x y) (hd : o.dst = none)
    (g off : Nat) (cells : Array Value) (hx : a.eval x = .pointer (some ⟨g, off, none⟩)) (hy : a.eval y = .agg cells) (t : TypeId) (old : Array Value) (hg : w.heap[g]? = some (.cells old t (0, 0))) (hi : (P.info? ty).map (·.size) = some cells.size)
    (hold : off + cells.size ≤ old.size) (h1 : ∀ u ∈ cells.toList, u.oneCell' = true)
    (h : ∀ w', w'.heap[g]? = some (.cells (putAt old.toList off cells.toList).toArray t (0, 0)) → Chg (fun i => i = g) w w' → wpList P ops Q rest a w') : wpList P ops Q (o :: rest) a w := by
  refine wpList_step fun K hK => ?_
  rw [if_pos hgd]
  have hst := run_storeCells_at P g off t cells.toList 0 old w hg (by simpa using hold) h1
  have hrun : (storeVar ty ⟨g, off, none⟩ (.agg cells)).run P w = .ok () (w.setRow g (putAt old.toList off cells.toList).toArray) := by
    cases hq : P.info? ty with
    | none => simp [hq] at hi
    | some i =>
      have hs : cells.size = i.size := by simp [hq] at hi; omega
      simp only [Nat.add_zero] at hst
      simp [storeVar, sizeOf, typeInfo, hq, Value.cells, hs, hst, putAt]
  unfold Oper.wp execOp
  simp only [ho, hx, hy, Instr.storeAt, Instr.sureAddr, Sem.run_bind, Sem.run_pure, Result.andThen_ok, hrun]
  refine hK (a.put o.dst undef) _ ?_
  rw [hd]
  exact h _ (setRow_heap w g old _ t (0, 0) hg) (setRow_chg w g _)
end
/-- What stands in a row behind an insertion by shifting: room. -/
theorem shifted {cur xs vs : List Value} {k n i c : Nat} (hx : cur.take (n * k) = xs) (hl : xs.length = n * k) (hv : vs.length = k) (hi : i ≤ n) (hc : cur.length = c * k) (hr : n + 1 ≤ c) :
    (putAt (putAt cur ((i + 1) * k) (xs.drop (i * k))) (i * k) vs).take ((n + 1) * k) = xs.take (i * k) ++ vs ++ xs.drop (i * k) := by
  have h1 : i * k ≤ n * k := Nat.mul_le_mul_right _ hi
  have h2 : (i + 1) * k = i * k + k := Nat.succ_mul i k
  have h3 : (n + 1) * k = n * k + k := Nat.succ_mul n k
  have h4 : (n + 1) * k ≤ c * k := Nat.mul_le_mul_right _ hr
  have h5 : (xs.drop (i * k)).length = n * k - i * k := by rw [List.length_drop, hl]
  have h6 : cur.take (i * k) = xs.take (i * k) := by rw [← hx, List.take_take, Nat.min_eq_left h1]
  apply List.ext_getElem?
  intro j
  unfold putAt
  rcases Nat.lt_or_ge j ((n + 1) * k) with hj | hj
  · rw [List.getElem?_take_of_lt hj]
    rcases Nat.lt_or_ge j (i * k) with hj1 | hj1
    · rw [List.getElem?_append_left (by simp; omega), List.getElem?_append_left (by simp; omega), List.getElem?_take_of_lt hj1, List.getElem?_append_left (by simp; omega), List.getElem?_append_left (by simp; omega), List.getElem?_take_of_lt (by omega)]
      rw [List.getElem?_append_left (by simp; omega), List.getElem?_append_left (by simp; omega), ← h6, List.getElem?_take_of_lt hj1]
    · rcases Nat.lt_or_ge j (i * k + k) with hj2 | hj2
      · have e1 : (List.take (i * k) (List.take ((i + 1) * k) cur ++ xs.drop (i * k) ++ List.drop ((i + 1) * k + (xs.drop (i * k)).length) cur)).length = i * k := by simp; omega
        rw [List.getElem?_append_left (by rw [List.length_append, e1]; omega), List.getElem?_append_right (by omega), e1, List.getElem?_append_left (by simp; omega), List.getElem?_append_right (by simp; omega)]
        congr 1
        simp
        omega
      · have e1 : (List.take (i * k) (List.take ((i + 1) * k) cur ++ xs.drop (i * k) ++ List.drop ((i + 1) * k + (xs.drop (i * k)).length) cur) ++ vs).length = i * k + k := by simp; omega
        rw [List.getElem?_append_right (by omega), e1, List.getElem?_drop, hv]
        have e2 : i * k + k + (j - (i * k + k)) = j := by omega
        rw [e2, List.getElem?_append_left (by simp; omega), List.getElem?_append_right (by simp; omega)]
        rw [List.getElem?_append_right (by simp; omega)]
        congr 1
        simp
        omega
  · rw [List.getElem?_eq_none (by simp; omega), List.getElem?_eq_none (by simp; omega)]
/-- .. and behind one by growth: a row with room, then both copied. -/
theorem grown {zs xs vs : List Value} {k n i c : Nat} (hz : zs.take (i * k) = xs.take (i * k)) (hl : xs.length = n * k) (hv : vs.length = k) (hi : i ≤ n) (hc : zs.length = c * k) (hr : n + 1 ≤ c) :
    (putAt (putAt zs (i * k) vs) ((i + 1) * k) (xs.drop (i * k))).take ((n + 1) * k) = xs.take (i * k) ++ vs ++ xs.drop (i * k) := by
  have h1 : i * k ≤ n * k := Nat.mul_le_mul_right _ hi
  have h2 : (i + 1) * k = i * k + k := Nat.succ_mul i k
  have h3 : (n + 1) * k = n * k + k := Nat.succ_mul n k
  have h4 : (n + 1) * k ≤ c * k := Nat.mul_le_mul_right _ hr
  have h5 : (xs.drop (i * k)).length = n * k - i * k := by rw [List.length_drop, hl]
  have hp : (putAt zs (i * k) vs).take ((i + 1) * k) = xs.take (i * k) ++ vs := by
    unfold putAt
    rw [hz, List.take_append_of_le_length (by simp; omega), List.take_of_length_le (by simp; omega)]
  have hq : putAt (putAt zs (i * k) vs) ((i + 1) * k) (xs.drop (i * k)) = xs.take (i * k) ++ vs ++ xs.drop (i * k) ++ (putAt zs (i * k) vs).drop ((i + 1) * k + (xs.drop (i * k)).length) := by
    rw [← hp]
    rfl
  rw [hq, List.take_append_of_le_length (by simp; omega), List.take_of_length_le (by simp; omega)]
/-- What stands in a row behind an element has been cut, and the last one wiped. -/
theorem cutout {cur xs zs : List Value} {k n i c : Nat} (hx : cur.take (n * k) = xs) (hl : xs.length = n * k) (hi : i < n) (hc : cur.length = c * k) (hr : n ≤ c) :
    (putAt (putAt cur (i * k) (xs.drop ((i + 1) * k))) ((n - 1) * k) zs).take ((n - 1) * k) = xs.take (i * k) ++ xs.drop ((i + 1) * k) := by
  have h1 : (i + 1) * k ≤ n * k := Nat.mul_le_mul_right _ hi
  have h2 : (i + 1) * k = i * k + k := Nat.succ_mul i k
  have h3 : n * k = (n - 1) * k + k := by rw [← Nat.succ_mul]; congr 1; omega
  have h4 : n * k ≤ c * k := Nat.mul_le_mul_right _ hr
  have h5 : (xs.drop ((i + 1) * k)).length = n * k - (i + 1) * k := by rw [List.length_drop, hl]
  have h6 : cur.take (i * k) = xs.take (i * k) := by rw [← hx, List.take_take, Nat.min_eq_left (by omega)]
  have h7 : (putAt cur (i * k) (xs.drop ((i + 1) * k))).length = c * k := by rw [putAt_length (by omega), hc]
  have hp : (putAt cur (i * k) (xs.drop ((i + 1) * k))).take ((n - 1) * k) = xs.take (i * k) ++ xs.drop ((i + 1) * k) := by
    unfold putAt
    rw [h6, List.take_append_of_le_length (by simp; omega), List.take_of_length_le (by simp; omega)]
  rw [← hp]
  generalize putAt cur (i * k) (xs.drop ((i + 1) * k)) = Y at *
  unfold putAt
  rw [List.append_assoc, List.take_append_of_le_length (by rw [List.length_take, h7]; omega), List.take_take, Nat.min_self]
theorem putAt_take {cur cs : List Value} {o m : Nat} (h : o + cs.length ≤ m) (hm : m ≤ cur.length) : (putAt cur o cs).take m = putAt (cur.take m) o cs := by
  unfold putAt
  have e1 : (List.take o cur ++ cs).length = o + cs.length := by simp; omega
  rw [List.take_append, List.take_of_length_le (by omega), e1, List.take_take, Nat.min_eq_left (by omega), List.drop_take]
/-- A row into which cells have been stored. -/
theorem own_store {w w' : World} {S : Nat → Prop} {e : TypeId} {size n c g : Nat} {xs cs : List Value} {cur : Array Value} {o : Nat} (h : Own w S e size (.slice (some ⟨g, 0, none⟩) n c) n xs) (hg : w.heap[g]? = some (.cells cur e (0, 0))) (hf : o + cs.length ≤ n * size) (hg' : w'.heap[g]? = some (.cells (putAt cur.toList o cs).toArray e (0, 0))) : Own w' S e size (.slice (some ⟨g, 0, none⟩) n c) n (putAt xs o cs) := by
  obtain ⟨g2, cur2, hq, hg2, hnc, hcm, hcs, hcx, hS, hl⟩ := blk_own h
  cases hq
  rw [hg] at hg2
  cases hg2
  have hns : n * size ≤ c * size := Nat.mul_le_mul_right _ hnc
  have hll : cur.toList.length = c * size := by simpa using hcs
  have := own_blk (S := S) (n := n) (c := c) (size := size) hg' hnc hcm (by rw [List.size_toArray, putAt_length (by omega), hll]) hS
  rwa [List.toList_toArray, putAt_take (by omega) (by omega), hcx] at this
end Go.Proofs.Ytipmkddcdnbihaa.Splice
