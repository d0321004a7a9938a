/- Texts put together: Splice, Inserts, TableH, TableI, TableJ, TableK, TableL, TableM, TableIs, TableN, TableO, TableP, ShapeW, TableQ, TableR, TableS, TableT. Contracts and plain facts, no condition but what each says. -/
import Derived.Laws.CopyRow
import Derived.Lib.AppendZerosOnto
import Derived.Lib.Overlaps
import Derived.Laws.Externs
import Derived.Shelf.RegionOpenPlain
import Derived.Outline
import Derived.Deep.DeepCutAuto
import Derived.BigQuiet
import Derived.Deep.MidRow
import Derived.SizedLaws
import Derived.Test.YtipmkddcdnbihaaBk3
/- Rows spliced: copy and clear at elements of whatever size, by blocks. No program in sight. -/
namespace Go.Proofs.Ytipmkddcdnbihaa.Splice
open Go.RowKit Base Step Vec
/-- Cells with some set from o on. -/
def putAt (xs : List Value) (o : Nat) (ys : List Value) : List Value := xs.take o ++ ys ++ xs.drop (o + ys.length)
theorem putAt_length {xs ys : List Value} {o : Nat} (h : o + ys.length ≤ xs.length) : (putAt xs o ys).length = xs.length := by
  simp only [putAt, List.length_append, List.length_take, List.length_drop]
  omega
theorem setRow_chg (w : World) (g : Nat) (C : Array Value) : Chg (fun i => i = g) w (w.setRow g C) := ⟨rfl, rfl, rfl, by simp, fun i _ h => setRow_other w g i C h⟩
/-- A row that stands in a block. -/
theorem own_blk {w : World} {S : Nat → Prop} {e : TypeId} {size g n c : Nat} {cur : Array Value} (h : w.heap[g]? = some (.cells cur e (0, 0))) (hn : n ≤ c) (hc : c ≤ maxLen) (hs : cur.size = c * size) (hS : S g) : Own w S e size (.slice (some ⟨g, 0, none⟩) n c) n (cur.toList.take (n * size)) :=
  ⟨⟨by rw [List.length_take]; have := Nat.mul_le_mul_right size hn; simp; omega, .inr ⟨g, c, cur, rfl, Nat.zero_le _, h, hn, hc, hs, rfl⟩⟩, fun k hk => by simp [Value.ownBlock] at hk; subst hk; exact hS⟩
/-- A row's block. -/
theorem blk_own {w : World} {S : Nat → Prop} {e : TypeId} {size n c : Nat} {ad : Addr} {xs : List Value} (h : Own w S e size (.slice (some ad) n c) n xs) : ∃ g cur, ad = ⟨g, 0, none⟩ ∧ w.heap[g]? = some (.cells cur e (0, 0)) ∧ n ≤ c ∧ c ≤ maxLen ∧ cur.size = c * size ∧ cur.toList.take (n * size) = xs ∧ S g ∧ xs.length = n * size := by
  have hf := h.foot _ rfl
  rcases h.row.2 with ⟨h1, h2⟩ | ⟨g, cap, cur, h1, h2, h3, h4, h5, h6, h7⟩
  · cases h1
  · cases h1
    exact ⟨g, cur, rfl, h3, h4, h5, h6, h7, hf, h.row.1⟩
theorem own_none {w : World} {S : Nat → Prop} {e : TypeId} {size n c : Nat} {xs : List Value} (h : Own w S e size (.slice none n c) n xs) : n = 0 ∧ c = 0 ∧ xs = [] := by
  rcases h.row.2 with ⟨h1, h2⟩ | ⟨g, cap, cur, h1, _⟩
  · cases h1
    have := h.row.1
    rw [h2, Nat.zero_mul] at this
    exact ⟨h2, rfl, List.eq_nil_of_length_eq_zero this⟩
  · cases h1
theorem add_zero_ (g o : Nat) : ∀ j, (⟨g, o, none⟩ : Addr).add j = ⟨g, o + j, none⟩ := fun j => by unfold Addr.add; split <;> simp_all
theorem cell_blk {w : World} {g : Nat} {cur : Array Value} {e : TypeId} (h : w.heap[g]? = some (.cells cur e (0, 0))) {j : Nat} {u : Value} (hu : cur.toList[j]? = some u) : w.cell? ⟨g, j, none⟩ = some u := by
  unfold World.cell?
  rw [h]
  simpa using hu
section
variable {P : Program}
theorem run_copy_k (w : World) (dT sT ty elem : TypeId) (g o dLen dCap : Nat) (A : Option Addr) (sLen sCap : Nat) (cur : Array Value) (t : TypeId) (cs : List Value) (size m : Nat)
    (hu : P.underlying dT = some (.slice elem)) (hs : (P.info? elem).map (·.size) = some size) (hg : w.heap[g]? = some (.cells cur t (0, 0))) (hm : Nat.min sLen dLen = m) (hn : cs.length = m * size)
    (hA : A = none → cs = []) (hsrc : ∀ a, A = some a → ∀ j v, cs[j]? = some v → w.cell? (a.add j) = some v) (hfit : o + cs.length ≤ cur.size) (h1 : ∀ v ∈ cs, v.oneCell' = true) :
    (Builtin.copy_ #[dT, sT] ty #[.slice (some ⟨g, o, none⟩) dLen dCap, .slice A sLen sCap]).run P w = .ok (goInt m) (w.setRow g (putAt cur.toList o cs).toArray) := by
  have hst := run_storeCells_at P g o t cs 0 cur w hg (by simpa using hfit) h1
  have hf : (Builtin.firstCells size m (.slice A sLen sCap)).run P w = .ok cs.toArray w := by
    rcases A with _ | a
    · rw [hA rfl]
      exact run_firstCells_none w size m sLen sCap
    · exact run_firstCells_some w size m a sLen sCap cs hn (hsrc a rfl)
  cases hq : P.info? elem with
  | none => simp [hq] at hs
  | some i =>
    have hi : i.size = size := by simpa [hq] using hs
    simp only [Nat.add_zero] at hst
    simp [Builtin.copy_, run_underlying hu, Builtin.lenOf, sizeOf, typeInfo, hq, hi, hm, hf, hst, putAt]
theorem wpList_copyB {ops : Array Oper} {rest : List Oper} {o : Oper} {a : Act} {Q : Exit → Act → World → Prop} (w : World) (hgd : Region.wanted o (yielded ops a.tmps) = true) (d s : Operand) (t : TypeId)
    (ho : o.op = .call { callee := .builtin .copy, args := #[d, s], argTypes := #[t, t] }) (e : TypeId) (size : Nat) (ht : P.underlying t = some (.slice e)) (hs : (P.info? e).map (·.size) = some size)
    (g off dLen dCap : Nat) (hd : a.eval d = .slice (some ⟨g, off, none⟩) dLen dCap) (A : Option Addr) (sLen sCap : Nat) (hx : a.eval s = .slice A sLen sCap) (cur : Array Value) (T : TypeId) (hg : w.heap[g]? = some (.cells cur T (0, 0)))
    (m : Nat) (hm : Nat.min sLen dLen = m) (cs : List Value) (hn : cs.length = m * size) (hA : A = none → cs = []) (hsrc : ∀ a, A = some a → ∀ j v, cs[j]? = some v → w.cell? (a.add j) = some v) (hfit : off + cs.length ≤ cur.size) (h1 : ∀ v ∈ cs, v.oneCell' = true)
    (h : ∀ w', w'.heap[g]? = some (.cells (putAt cur.toList off cs).toArray T (0, 0)) → Chg (fun i => i = g) w w' → wpList P ops Q rest (a.put o.dst (goInt m)) w') : wpList P ops Q (o :: rest) a w := by
  refine wpList_step fun K hK => ?_
  rw [if_pos hgd]
  have hrun := run_copy_k (P := P) w t t o.type e g off dLen dCap A sLen sCap cur T cs size m ht hs hg hm hn hA hsrc hfit h1
  unfold Oper.wp execOp
  simp only [ho, resolve, invoke, builtin, Sem.run_bind, Sem.run_pure, Result.andThen_ok, List.map_toArray, List.map_cons, List.map_nil, hd, hx, hrun]
  exact hK _ _ (h _ (setRow_heap w g cur _ T (0, 0) hg) (setRow_chg w g _))
theorem step_copyB {ops : Array Oper} {o : Oper} {a : Act} {K : Act → World → Prop} {Q : Exit → Act → World → Prop} {E : Prop} (w : World) (hgd : o.guard = none) (d s : Operand) (t : TypeId)
    (ho : o.op = .call { callee := .builtin .copy, args := #[d, s], argTypes := #[t, t] }) (e : TypeId) (size : Nat) (ht : P.underlying t = some (.slice e)) (hs : (P.info? e).map (·.size) = some size)
    (g off dLen dCap : Nat) (hd : a.eval d = .slice (some ⟨g, off, none⟩) dLen dCap) (A : Option Addr) (sLen sCap : Nat) (hx : a.eval s = .slice A sLen sCap) (cur : Array Value) (T : TypeId) (hg : w.heap[g]? = some (.cells cur T (0, 0)))
    (m : Nat) (hm : Nat.min sLen dLen = m) (cs : List Value) (hn : cs.length = m * size) (hA : A = none → cs = []) (hsrc : ∀ a, A = some a → ∀ j v, cs[j]? = some v → w.cell? (a.add j) = some v) (hfit : off + cs.length ≤ cur.size) (h1 : ∀ v ∈ cs, v.oneCell' = true)
    (hK : K (a.put o.dst (goInt m)) (w.setRow g (putAt cur.toList off cs).toArray)) : if Region.wanted o (yielded ops a.tmps) = true then Oper.wp P o a w K Q else E := by
  have hw : Region.wanted o (yielded ops a.tmps) = true := by simp [Region.wanted, hgd]
  rw [if_pos hw]
  have hrun := run_copy_k (P := P) w t t o.type e g off dLen dCap A sLen sCap cur T cs size m ht hs hg hm hn hA hsrc hfit h1
  unfold Oper.wp execOp
  simp only [ho, resolve, invoke, builtin, Sem.run_bind, Sem.run_pure, Result.andThen_ok, List.map_toArray, List.map_cons, List.map_nil, hd, hx, hrun]
  exact hK
theorem run_append_in (w : World) (t ty elem : TypeId) (g n c : Nat) (A : Option Addr) (m c2 : Nat) (cur : Array Value) (T : TypeId) (cs : List Value) (size : Nat)
    (hu : P.underlying t = some (.slice elem)) (hs : (P.info? elem).map (·.size) = some size) (hg : w.heap[g]? = some (.cells cur T (0, 0))) (hn : cs.length = m * size) (hroom : n + m ≤ c)
    (hA : A = none → cs = []) (hsrc : ∀ a, A = some a → ∀ j v, cs[j]? = some v → w.cell? (a.add j) = some v) (hfit : n * size + cs.length ≤ cur.size) (h1 : ∀ v ∈ cs, v.oneCell' = true) :
    (Builtin.append_ #[t, t] ty #[.slice (some ⟨g, 0, none⟩) n c, .slice A m c2]).run P w = .ok (.slice (some ⟨g, 0, none⟩) (n + m) c) (w.setRow g (putAt cur.toList (n * size) cs).toArray) := by
  have hst := run_storeCells_at P g (n * size) T cs 0 cur w hg (by simpa using hfit) h1
  have hf : (Builtin.firstCells size m (.slice A m c2)).run P w = .ok cs.toArray w := by
    rcases A with _ | a
    · rw [hA rfl]
      exact run_firstCells_none w size m m c2
    · exact run_firstCells_some w size m a m c2 cs hn (hsrc a rfl)
  cases hq : P.info? elem with
  | none => simp [hq] at hs
  | some i =>
    have hi : i.size = size := by simpa [hq] using hs
    have hadd : (⟨g, 0, none⟩ : Addr).add (n * size) = ⟨g, n * size, none⟩ := by rw [add_zero_, Nat.zero_add]
    simp only [Nat.add_zero] at hst
    simp [Builtin.append_, run_underlying hu, Builtin.lenOf, sizeOf, typeInfo, hq, hi, hroom, hf, hadd, hst, putAt]
theorem step_append_in {ops : Array Oper} {o : Oper} {a : Act} {K : Act → World → Prop} {Q : Exit → Act → World → Prop} {E : Prop} (w : World) (hgd : o.guard = none) (d s : Operand) (t : TypeId)
    (ho : o.op = .call { callee := .builtin .append, args := #[d, s], argTypes := #[t, t] }) (e : TypeId) (size : Nat) (ht : P.underlying t = some (.slice e)) (hs : (P.info? e).map (·.size) = some size)
    (g n c : Nat) (hd : a.eval d = .slice (some ⟨g, 0, none⟩) n c) (A : Option Addr) (m c2 : Nat) (hx : a.eval s = .slice A m c2) (cur : Array Value) (T : TypeId) (hg : w.heap[g]? = some (.cells cur T (0, 0)))
    (cs : List Value) (hn : cs.length = m * size) (hroom : n + m ≤ c) (hA : A = none → cs = []) (hsrc : ∀ a, A = some a → ∀ j v, cs[j]? = some v → w.cell? (a.add j) = some v) (hfit : n * size + cs.length ≤ cur.size) (h1 : ∀ v ∈ cs, v.oneCell' = true)
    (hK : K (a.put o.dst (.slice (some ⟨g, 0, none⟩) (n + m) c)) (w.setRow g (putAt cur.toList (n * size) cs).toArray)) : if Region.wanted o (yielded ops a.tmps) = true then Oper.wp P o a w K Q else E := by
  have hw : Region.wanted o (yielded ops a.tmps) = true := by simp [Region.wanted, hgd]
  rw [if_pos hw]
  have hrun := run_append_in (P := P) w t o.type e g n c A m c2 cur T cs size ht hs hg hn hroom hA hsrc hfit h1
  unfold Oper.wp execOp
  simp only [ho, resolve, invoke, builtin, Sem.run_bind, Sem.run_pure, Result.andThen_ok, List.map_toArray, List.map_cons, List.map_nil, hd, hx, hrun]
  exact hK
/-- Zero cells, so many. -/
theorem zeroCells_size (z : Array Value) (m : Nat) : (Builtin.zeroCells z m).size = m * z.size := by simp [Builtin.zeroCells]
theorem zeroCells_one {z : Array Value} {m : Nat} (hz : ∀ u ∈ z, u.oneCell' = true) : ∀ v ∈ (Builtin.zeroCells z m).toList, v.oneCell' = true := fun v hv => by
  simp only [Builtin.zeroCells, Array.toList_map, List.mem_map, Array.toList_range, List.mem_range] at hv
  obtain ⟨i, hi, rfl⟩ := hv
  have hp : 0 < z.size := Nat.pos_of_ne_zero fun h => by rw [h] at hi; omega
  have hlt : i % z.size < z.size := Nat.mod_lt _ hp
  rw [getElem!_pos z _ hlt]
  exact hz _ (Array.getElem_mem hlt)
theorem run_clear_k (w : World) (t ty elem : TypeId) (g o m c : Nat) (cur : Array Value) (T : TypeId) (z : Value) (size : Nat) (hm : 0 < m)
    (hu : P.underlying t = some (.slice elem)) (hs : (P.info? elem).map (fun i => (i.zero, i.size)) = some (some z, size)) (hzs : z.cells.size = size) (hg : w.heap[g]? = some (.cells cur T (0, 0))) (hfit : o + m * size ≤ cur.size) (h1 : ∀ u ∈ z.cells, u.oneCell' = true) :
    (Builtin.clear_ #[t] ty #[.slice (some ⟨g, o, none⟩) m c]).run P w = .ok (.tuple #[]) (w.setRow g (putAt cur.toList o (Builtin.zeroCells z.cells m).toList).toArray) := by
  have hst := run_storeCells_at P g o T (Builtin.zeroCells z.cells m).toList 0 cur w hg (by simp [zeroCells_size, hzs]; exact hfit) (zeroCells_one h1)
  obtain ⟨k, rfl⟩ : ∃ k, m = k + 1 := ⟨m - 1, by omega⟩
  cases hq : P.info? elem with
  | none => simp [hq] at hs
  | some i =>
    have hi : i.zero = some z := by simp [hq] at hs; exact hs.1
    simp only [Nat.add_zero] at hst
    simp [Builtin.clear_, run_underlying hu, zeroValue, typeInfo, hq, hi, hst, putAt]
theorem wpList_clearB {ops : Array Oper} {rest : List Oper} {o : Oper} {a : Act} {Q : Exit → Act → World → Prop} (w : World) (hgd : Region.wanted o (yielded ops a.tmps) = true) (d : Operand) (t : TypeId)
    (ho : o.op = .call { callee := .builtin .clear, args := #[d], argTypes := #[t] }) (e : TypeId) (z : Value) (size : Nat) (ht : P.underlying t = some (.slice e)) (hs : (P.info? e).map (fun i => (i.zero, i.size)) = some (some z, size)) (hzs : z.cells.size = size)
    (g off m c : Nat) (hd : a.eval d = .slice (some ⟨g, off, none⟩) m c) (hm : 0 < m) (cur : Array Value) (T : TypeId) (hg : w.heap[g]? = some (.cells cur T (0, 0))) (hfit : off + m * size ≤ cur.size) (h1 : ∀ u ∈ z.cells, u.oneCell' = true)
    (h : ∀ w', w'.heap[g]? = some (.cells (putAt cur.toList off (Builtin.zeroCells z.cells m).toList).toArray T (0, 0)) → Chg (fun i => i = g) w w' → wpList P ops Q rest (a.put o.dst (.tuple #[])) w') : wpList P ops Q (o :: rest) a w := by
  refine wpList_step fun K hK => ?_
  rw [if_pos hgd]
  have hrun := run_clear_k (P := P) w t o.type e g off m c cur T z size hm ht hs hzs hg hfit h1
  unfold Oper.wp execOp
  simp only [ho, resolve, invoke, builtin, Sem.run_bind, Sem.run_pure, Result.andThen_ok, List.map_toArray, List.map_cons, List.map_nil, hd, hrun]
  exact hK _ _ (h _ (setRow_heap w g cur _ T (0, 0) hg) (setRow_chg w g _))
/-- A struct is stored somewhere in a block. -/
theorem wpList_storeB {ops : Array Oper} {rest : List Oper} {o : Oper} {a : Act} {w : World} {Q : Exit → Act → World → Prop} (ty : TypeId) (x y : Operand) (hgd : Region.wanted o (yielded ops a.tmps) = true) (ho : o.op = .store ty x y) (hd : o.dst = none)
    (g off : Nat) (cells : Array Value) (hx : a.eval x = .pointer (some ⟨g, off, none⟩)) (hy : a.eval y = .agg cells) (t : TypeId) (old : Array Value) (hg : w.heap[g]? = some (.cells old t (0, 0))) (hi : (P.info? ty).map (·.size) = some cells.size)
    (hold : off + cells.size ≤ old.size) (h1 : ∀ u ∈ cells.toList, u.oneCell' = true)
    (h : ∀ w', w'.heap[g]? = some (.cells (putAt old.toList off cells.toList).toArray t (0, 0)) → Chg (fun i => i = g) w w' → wpList P ops Q rest a w') : wpList P ops Q (o :: rest) a w := by
  refine wpList_step fun K hK => ?_
  rw [if_pos hgd]
  have hst := run_storeCells_at P g off t cells.toList 0 old w hg (by simpa using hold) h1
  have hrun : (storeVar ty ⟨g, off, none⟩ (.agg cells)).run P w = .ok () (w.setRow g (putAt old.toList off cells.toList).toArray) := by
    cases hq : P.info? ty with
    | none => simp [hq] at hi
    | some i =>
      have hs : cells.size = i.size := by simp [hq] at hi; omega
      simp only [Nat.add_zero] at hst
      simp [storeVar, sizeOf, typeInfo, hq, Value.cells, hs, hst, putAt]
  unfold Oper.wp execOp
  simp only [ho, hx, hy, Instr.storeAt, Instr.sureAddr, Sem.run_bind, Sem.run_pure, Result.andThen_ok, hrun]
  refine hK (a.put o.dst undef) _ ?_
  rw [hd]
  exact h _ (setRow_heap w g old _ t (0, 0) hg) (setRow_chg w g _)
end
/-- What stands in a row behind an insertion by shifting: room. -/
theorem shifted {cur xs vs : List Value} {k n i c : Nat} (hx : cur.take (n * k) = xs) (hl : xs.length = n * k) (hv : vs.length = k) (hi : i ≤ n) (hc : cur.length = c * k) (hr : n + 1 ≤ c) :
    (putAt (putAt cur ((i + 1) * k) (xs.drop (i * k))) (i * k) vs).take ((n + 1) * k) = xs.take (i * k) ++ vs ++ xs.drop (i * k) := by
  have h1 : i * k ≤ n * k := Nat.mul_le_mul_right _ hi
  have h2 : (i + 1) * k = i * k + k := Nat.succ_mul i k
  have h3 : (n + 1) * k = n * k + k := Nat.succ_mul n k
  have h4 : (n + 1) * k ≤ c * k := Nat.mul_le_mul_right _ hr
  have h5 : (xs.drop (i * k)).length = n * k - i * k := by rw [List.length_drop, hl]
  have h6 : cur.take (i * k) = xs.take (i * k) := by rw [← hx, List.take_take, Nat.min_eq_left h1]
  apply List.ext_getElem?
  intro j
  unfold putAt
  rcases Nat.lt_or_ge j ((n + 1) * k) with hj | hj
  · rw [List.getElem?_take_of_lt hj]
    rcases Nat.lt_or_ge j (i * k) with hj1 | hj1
    · rw [List.getElem?_append_left (by simp; omega), List.getElem?_append_left (by simp; omega), List.getElem?_take_of_lt hj1, List.getElem?_append_left (by simp; omega), List.getElem?_append_left (by simp; omega), List.getElem?_take_of_lt (by omega)]
      rw [List.getElem?_append_left (by simp; omega), List.getElem?_append_left (by simp; omega), ← h6, List.getElem?_take_of_lt hj1]
    · rcases Nat.lt_or_ge j (i * k + k) with hj2 | hj2
      · have e1 : (List.take (i * k) (List.take ((i + 1) * k) cur ++ xs.drop (i * k) ++ List.drop ((i + 1) * k + (xs.drop (i * k)).length) cur)).length = i * k := by simp; omega
        rw [List.getElem?_append_left (by rw [List.length_append, e1]; omega), List.getElem?_append_right (by omega), e1, List.getElem?_append_left (by simp; omega), List.getElem?_append_right (by simp; omega)]
        congr 1
        simp
        omega
      · have e1 : (List.take (i * k) (List.take ((i + 1) * k) cur ++ xs.drop (i * k) ++ List.drop ((i + 1) * k + (xs.drop (i * k)).length) cur) ++ vs).length = i * k + k := by simp; omega
        rw [List.getElem?_append_right (by omega), e1, List.getElem?_drop, hv]
        have e2 : i * k + k + (j - (i * k + k)) = j := by omega
        rw [e2, List.getElem?_append_left (by simp; omega), List.getElem?_append_right (by simp; omega)]
        rw [List.getElem?_append_right (by simp; omega)]
        congr 1
        simp
        omega
  · rw [List.getElem?_eq_none (by simp; omega), List.getElem?_eq_none (by simp; omega)]
/-- .. and behind one by growth: a row with room, then both copied. -/
theorem grown {zs xs vs : List Value} {k n i c : Nat} (hz : zs.take (i * k) = xs.take (i * k)) (hl : xs.length = n * k) (hv : vs.length = k) (hi : i ≤ n) (hc : zs.length = c * k) (hr : n + 1 ≤ c) :
    (putAt (putAt zs (i * k) vs) ((i + 1) * k) (xs.drop (i * k))).take ((n + 1) * k) = xs.take (i * k) ++ vs ++ xs.drop (i * k) := by
  have h1 : i * k ≤ n * k := Nat.mul_le_mul_right _ hi
  have h2 : (i + 1) * k = i * k + k := Nat.succ_mul i k
  have h3 : (n + 1) * k = n * k + k := Nat.succ_mul n k
  have h4 : (n + 1) * k ≤ c * k := Nat.mul_le_mul_right _ hr
  have h5 : (xs.drop (i * k)).length = n * k - i * k := by rw [List.length_drop, hl]
  have hp : (putAt zs (i * k) vs).take ((i + 1) * k) = xs.take (i * k) ++ vs := by
    unfold putAt
    rw [hz, List.take_append_of_le_length (by simp; omega), List.take_of_length_le (by simp; omega)]
  have hq : putAt (putAt zs (i * k) vs) ((i + 1) * k) (xs.drop (i * k)) = xs.take (i * k) ++ vs ++ xs.drop (i * k) ++ (putAt zs (i * k) vs).drop ((i + 1) * k + (xs.drop (i * k)).length) := by
    rw [← hp]
    rfl
  rw [hq, List.take_append_of_le_length (by simp; omega), List.take_of_length_le (by simp; omega)]
/-- What stands in a row behind an element has been cut, and the last one wiped. -/
theorem cutout {cur xs zs : List Value} {k n i c : Nat} (hx : cur.take (n * k) = xs) (hl : xs.length = n * k) (hi : i < n) (hc : cur.length = c * k) (hr : n ≤ c) :
    (putAt (putAt cur (i * k) (xs.drop ((i + 1) * k))) ((n - 1) * k) zs).take ((n - 1) * k) = xs.take (i * k) ++ xs.drop ((i + 1) * k) := by
  have h1 : (i + 1) * k ≤ n * k := Nat.mul_le_mul_right _ hi
  have h2 : (i + 1) * k = i * k + k := Nat.succ_mul i k
  have h3 : n * k = (n - 1) * k + k := by rw [← Nat.succ_mul]; congr 1; omega
  have h4 : n * k ≤ c * k := Nat.mul_le_mul_right _ hr
  have h5 : (xs.drop ((i + 1) * k)).length = n * k - (i + 1) * k := by rw [List.length_drop, hl]
  have h6 : cur.take (i * k) = xs.take (i * k) := by rw [← hx, List.take_take, Nat.min_eq_left (by omega)]
  have h7 : (putAt cur (i * k) (xs.drop ((i + 1) * k))).length = c * k := by rw [putAt_length (by omega), hc]
  have hp : (putAt cur (i * k) (xs.drop ((i + 1) * k))).take ((n - 1) * k) = xs.take (i * k) ++ xs.drop ((i + 1) * k) := by
    unfold putAt
    rw [h6, List.take_append_of_le_length (by simp; omega), List.take_of_length_le (by simp; omega)]
  rw [← hp]
  generalize putAt cur (i * k) (xs.drop ((i + 1) * k)) = Y at *
  unfold putAt
  rw [List.append_assoc, List.take_append_of_le_length (by rw [List.length_take, h7]; omega), List.take_take, Nat.min_self]
theorem putAt_take {cur cs : List Value} {o m : Nat} (h : o + cs.length ≤ m) (hm : m ≤ cur.length) : (putAt cur o cs).take m = putAt (cur.take m) o cs := by
  unfold putAt
  have e1 : (List.take o cur ++ cs).length = o + cs.length := by simp; omega
  rw [List.take_append, List.take_of_length_le (by omega), e1, List.take_take, Nat.min_eq_left (by omega), List.drop_take]
/-- A row into which cells have been stored. -/
theorem own_store {w w' : World} {S : Nat → Prop} {e : TypeId} {size n c g : Nat} {xs cs : List Value} {cur : Array Value} {o : Nat} (h : Own w S e size (.slice (some ⟨g, 0, none⟩) n c) n xs) (hg : w.heap[g]? = some (.cells cur e (0, 0))) (hf : o + cs.length ≤ n * size) (hg' : w'.heap[g]? = some (.cells (putAt cur.toList o cs).toArray e (0, 0))) : Own w' S e size (.slice (some ⟨g, 0, none⟩) n c) n (putAt xs o cs) := by
  obtain ⟨g2, cur2, hq, hg2, hnc, hcm, hcs, hcx, hS, hl⟩ := blk_own h
  cases hq
  rw [hg] at hg2
  cases hg2
  have hns : n * size ≤ c * size := Nat.mul_le_mul_right _ hnc
  have hll : cur.toList.length = c * size := by simpa using hcs
  have := own_blk (S := S) (n := n) (c := c) (size := size) hg' hnc hcm (by rw [List.size_toArray, putAt_length (by omega), hll]) hS
  rwa [List.toList_toArray, putAt_take (by omega) (by omega), hcx] at this
end Go.Proofs.Ytipmkddcdnbihaa.Splice
/- slices.Insert and slices.Delete of one element (printed by gen_insert.py). -/
namespace Go.Proofs.Ytipmkddcdnbihaa.Inserts
open Go.RowKit Base Step Vec Splice
theorem zsizeObj : (Try.prog.info? 196).map (fun i => (i.zero, i.size)) = some (some (.agg #[.int .u32 0, .string ByteArray.empty, .int .i64 0, .int .i64 0, .int .i64 0, .slice none 0 0]), 6) := by kernel_rfl
theorem sizeObj : (Try.prog.info? 196).map (·.size) = some 6 := by kernel_rfl
set_option maxHeartbeats 2000000 in
set_option maxRecDepth 100000 in
theorem insertObj (S : Nat → Prop) (A : Option Addr) (n c i vb : Nat) (xs vs : List Value) (w : World) (ho : Own w S 196 6 (.slice A n c) n xs) (hi : i ≤ n) (hv : w.heap[vb]? = some (.cells vs.toArray 196 (0, 0))) (hvl : vs.length = 6) (hne : i < n → (Value.slice A n c).ownBlock ≠ some vb) (h1 : ∀ u ∈ vs, u.oneCell' = true) (hx1 : ∀ u ∈ xs, u.oneCell' = true) (hb : (n + 1) * 72 ≤ 140737488355328) (hS : ∀ i, w.heap.size ≤ i → S i) :
    Calls Try.prog 219 #[.slice A n c, .int .i64 i, .slice (some ⟨vb, 0, none⟩) 1 1] w fun e w' => ∃ A' c', e = .returned (.slice A' (n + 1) c') ∧ Own w' S 196 6 (.slice A' (n + 1) c') (n + 1) (xs.take (i * 6) ++ vs ++ xs.drop (i * 6)) ∧ Chg (fun j => (Value.slice A n c).ownBlock = some j) w w' := by
  have hlen : xs.length = n * 6 := ho.row.1
  have hcap := ho.cap
  have HO := Lib.hid ho
  have HV := Lib.hid hv
  have H1 := Lib.hid h1
  have HX1 := Lib.hid hx1
  have hvc : ∀ j u, vs[j]? = some u → w.cell? ⟨vb, j, none⟩ = some u := fun j u hu => cell_blk hv (by simpa using hu)
  have HVC := Lib.hid hvc
  have HS := Lib.hid hS
  clear ho hv h1 hx1 hvc hS
  by_cases hin : i = n
  · obtain rfl := hin
    have hd : xs.take (i * 6) ++ vs ++ xs.drop (i * 6) = xs ++ vs := by
      rw [List.take_of_length_le (by omega), List.drop_of_length_le (by omega), List.append_nil]
    rw [hd]
    have hic := hcap.1
    rcases A with _ | ad
    all_goals
      go_enter Try.func219, Try.ntmps219
      go_wp2_with (at_builtin; refine wpList_appE _ rfl _ _ _ rfl S 196 _ 6 72 Try.underlying192 Clones.infoObj rfl (by decide) (by decide) _ _ xs rfl HO.out vb 1 vs rfl hvl HVC.out H1.out hb HS.out ?_; intro A2 c2 w2 ho2 hc2)
      all_goals
        go_ret
        exact ⟨A2, c2, rfl, ho2, hc2⟩
  · have hlt : i < n := by omega
    rcases A with _ | ad
    · have := own_none HO.out
      omega
    obtain ⟨g, cur, rfl, hg, hnc, hcm, hcs, hcx, hSg, _⟩ := blk_own HO.out
    simp only [maxLen] at hcm
    have HG := Lib.hid hg
    have hgv : vb ≠ g := fun e => hne hlt (by rw [e]; rfl)
    have hxc : ∀ j u, xs[j]? = some u → w.cell? ⟨g, j, none⟩ = some u := fun j u hu => cell_blk hg (by
      rw [← hcx] at hu
      have hj := (List.getElem?_eq_some_iff.1 hu).1
      rwa [List.getElem?_take_of_lt (by rw [List.length_take] at hj; omega)] at hu)
    have HXC := Lib.hid hxc
    have hdl : (xs.drop (i * 6)).length = (n - i) * 6 := by rw [List.length_drop, hlen]; omega
    have HDL := Lib.hid hdl
    have ni : ¬ ((i : Int) = (n : Int)) := by omega
    have hlen2 : cur.toList.length = c * 6 := by simpa using hcs
    have hgi : ¬ (c = i) := by omega
    clear hg hxc hdl hne hin
    by_cases hroom : n + 1 ≤ c
    · have hr2 : ¬ ((c : Int) < (n : Int) + 1) := by omega
      have hov : ∀ o lb cb, (callFunc 252 #[.slice (some ⟨vb, 0, none⟩) 1 1, .slice (some ⟨g, o, none⟩) lb cb]).run Try.prog w = .ok (.value (.bool false)) w := fun o lb cb => by
        rw [run_callFunc_extern Try.func252 (by kernel_rfl) (by kernel_rfl) (by kernel_rfl) (e := Extern.SlicesOverlaps.overlaps #[192, 192] #[4]) (by kernel_rfl),
          Lib.run_overlaps_apart w 192 4 196 Try.underlying192 6 Try.sizeOf196 ⟨vb, 0, none⟩ ⟨g, o, none⟩ 1 1 lb cb hgv 196 196 vs.toArray.size cur.size (by unfold World.shape?; rw [HV.out]) (by unfold World.shape?; rw [HG.out]) (by omega) (Pack.free_of HV.out _) (Pack.free_of HV.out _)]
        rfl
      go_enter Try.func219, Try.ntmps219
      go_wp2_with (simp only [hov])
      have mixed : Try.prog.follows .mixedOrders = true := by kernel_rfl
      have hw1 : IntKind.i64.wrap ((i : Int) + 1) = (i : Int) + 1 := by rw [IntKind.wrap_i64]; omega
      have hb1 : (0 : Int) ≤ (i : Int) + 1 := by omega
      have htn : ((i : Int) + 1).toNat = i + 1 := by omega
      have hb2 : ¬ (c = i + 1) := by omega
      have hb3 : (i : Int) ≤ (n : Int) + 1 := by omega
      have hsA : (cur.toList.length) = c * 6 := hlen2
      go_region_law_o (refine step_copyB _ rfl _ _ 192 rfl 196 6 Try.underlying192 sizeObj g ((i + 1) * 6) (n - i) (c - (i + 1)) (by simp [Act.eval, Act.put]) (some ⟨g, i * 6, none⟩) (n + 1 - i) (c - i) (by simp [Act.eval, Act.put]) cur 196 HG.out (n - i) (by simp only [Nat.min_def]; split <;> omega) (xs.drop (i * 6)) HDL.out (fun h => by cases h) (fun a ha j u hu => by cases ha; rw [add_zero_]; exact HXC.out _ _ (by rwa [List.getElem?_drop] at hu)) (by rw [HDL.out]; omega) (fun u hu => HX1.out u (List.mem_of_mem_drop hu)) ?_)
      have hg1 := setRow_heap w.drew g cur (putAt cur.toList ((i + 1) * 6) (xs.drop (i * 6))).toArray 196 (0, 0) HG.out
      have hc1 := Chg.trans (Chg.drew (Chg.refl (fun i => i = g) w)) (setRow_chg w.drew g (putAt cur.toList ((i + 1) * 6) (xs.drop (i * 6))).toArray)
      have HG1 := Lib.hid hg1
      have HC1 := Lib.hid hc1
      clear hg1 hc1
      generalize w.drew.setRow g (putAt cur.toList ((i + 1) * 6) (xs.drop (i * 6))).toArray = w1 at *
      have hl1 : (putAt cur.toList ((i + 1) * 6) (xs.drop (i * 6))).length = c * 6 := by rw [putAt_length (by rw [HDL.out]; omega)]; exact hlen2
      go_wp2_with (refine wpList_copyB _ rfl _ _ 192 rfl 196 6 Try.underlying192 sizeObj g (i * 6) (n + 1 - i) (c - i) rfl (some ⟨vb, 0, none⟩) 1 1 rfl _ 196 HG1.out 1 (by simp only [Nat.min_def]; split <;> omega) vs (by omega) (fun h => by cases h) (fun a ha j u hu => by cases ha; rw [add_zero_, Nat.zero_add]; exact HC1.out.cell (HVC.out _ _ hu) hgv) (by rw [List.size_toArray, hl1, hvl]; omega) H1.out ?_; intro w3 hg3 hc3)
      go_ret
      refine ⟨_, _, rfl, ?_, (Chg.trans HC1.out hc3).mono fun j _ hj => by rw [hj]; rfl⟩
      have := own_blk (S := S) (n := n + 1) (c := c) (size := 6) hg3 hroom (by simp only [maxLen]; omega) (by rw [List.size_toArray, putAt_length (by rw [List.toList_toArray, hl1, hvl]; omega), List.toList_toArray, hl1]) hSg
      rw [List.toList_toArray, List.toList_toArray, shifted hcx hlen hvl hi hlen2 hroom] at this
      simpa only [List.append_assoc] using this
    · have hr2 : (c : Int) < (n : Int) + 1 := by omega
      obtain rfl : n = c := by omega
      have hikn : i * 6 ≤ n * 6 := Nat.mul_le_mul_right _ hi
      have hti : (xs.take (i * 6)).length = i * 6 := by rw [List.length_take, hlen]; omega
      have hold0 : (Builtin.firstCells 6 i (.slice (some ⟨g, 0, none⟩) i n)).run Try.prog w.drew = .ok (xs.take (i * 6)).toArray w.drew :=
        run_firstCells_some w.drew 6 i ⟨g, 0, none⟩ i n (xs.take (i * 6)) hti (fun j u hu => by
          rw [add_zero_, Nat.zero_add]
          have hj := (List.getElem?_eq_some_iff.1 hu).1
          exact HXC.out j u (by rwa [List.getElem?_take_of_lt (by omega)] at hu))
      obtain ⟨inf, hinf, hiz, his, hib⟩ := info_parts Clones.infoObj
      obtain ⟨T0, hT0⟩ : ∃ T0, T0 = xs.take (i * 6) := ⟨_, rfl⟩
      rw [← hT0] at hti
      have hold : (Builtin.firstCells inf.size i (.slice (some ⟨g, 0, none⟩) i n)).run Try.prog w.drew = .ok T0.toArray w.drew := by rw [his, hT0]; exact hold0
      clear hold0
      have hrun := fun ty => Lib.run_append_grow_zeros w 192 3 ty 196 inf _ .i64 .i64 Try.underlying192 Try.underlying3 hinf hiz (some ⟨g, 0, none⟩) i n _ hold (n + 1 - i) (by omega) (by omega) (by omega) (by omega) (by rw [hib]; omega) (by rw [hib]; exact growslice_fits (by omega) (by omega))
      have hge := grownCap_ge w (i + (n + 1 - i)) n 196
      have hle := grownCap_le_maxLen w (i + (n + 1 - i)) n 196 (by simp only [maxLen]; omega)
      have hni : i + (n + 1 - i) = n + 1 := by omega
      rw [hni] at hrun hge hle
      have hz : (Value.cells (.agg #[.int .u32 0, .string ByteArray.empty, .int .i64 0, .int .i64 0, .int .i64 0, .slice none 0 0])).size = 6 := by rfl
      generalize grownCap w (n + 1) n 196 = G at *
      obtain ⟨R, hR⟩ : ∃ R, R = T0.toArray ++ Builtin.zeroCells (Value.cells (.agg #[.int .u32 0, .string ByteArray.empty, .int .i64 0, .int .i64 0, .int .i64 0, .slice none 0 0])) (n + 1 - i) ++ Builtin.zeroCells (Value.cells (.agg #[.int .u32 0, .string ByteArray.empty, .int .i64 0, .int .i64 0, .int .i64 0, .slice none 0 0])) (G - (n + 1)) := ⟨_, rfl⟩
      have hRl : R.size = G * 6 := by
        rw [hR]
        simp [Builtin.zeroCells, hz]
        omega
      have hRt : R.toList.take (i * 6) = xs.take (i * 6) := by
        rw [hR, ← hT0]
        simp only [Array.toList_append, List.toList_toArray, List.append_assoc]
        rw [List.take_append_of_le_length (by omega), List.take_of_length_le (by omega)]
      rw [← hR] at hrun
      have hrl2 : R.toList.length = G * 6 := by simpa using hRl
      simp only [maxLen] at hle
      have HE1 := Lib.hid (Ext.drew (Ext.new w (.cells R 196)))
      have hn1 : ((w.alloc (.cells R 196)).drew).heap[w.heap.size]? = some (.cells R 196 (0, 0)) := at_new w (.cells R 196)
      have hgG : ¬ (w.heap.size = g) := fun e => by have := Pack.lt_of_at HG.out; omega
      have hni2 : (n : Int) + 1 - i = ((n + 1 - i : Nat) : Int) := by omega
      clear hR hold
      go_enter Try.func219, Try.ntmps219
      go_upto_region 10 with (at_builtin; (refine Lib.wpList_append_run _ rfl _ _ _ _ rfl (.slice (some ⟨g, 0, none⟩) i n) (.int .i64 ((n + 1 - i : Nat) : Int)) rfl rfl _ _ (hrun _) ?_))
      have HN1 := Lib.hid hn1
      clear hn1 hrun hni2
      generalize (w.alloc (.cells R 196)).drew = w1 at *
      have hlp1 : (putAt R.toList (i * 6) vs).length = G * 6 := by rw [putAt_length (by rw [hrl2, hvl]; omega), hrl2]
      go_wp2_with (refine wpList_copyB _ rfl _ _ 192 rfl 196 6 Try.underlying192 sizeObj w.heap.size (i * 6) (n + 1 - i) (G - i) rfl (some ⟨vb, 0, none⟩) 1 1 rfl R 196 HN1.out 1 (by simp only [Nat.min_def]; split <;> omega) vs (by omega) (fun h => by cases h) (fun a ha j u hu => by cases ha; rw [add_zero_, Nat.zero_add]; exact HE1.out.cell_ (HVC.out _ _ hu)) (by rw [hRl, hvl]; omega) H1.out ?_; intro w3 hg3 hc3)
      have HE3 := Lib.hid (HE1.out.chg hc3 fun j hj => by rw [hj]; exact Nat.le_refl _)
      have HG3 := Lib.hid hg3
      have mixed : Try.prog.follows .mixedOrders = true := by kernel_rfl
      have hw1 : IntKind.i64.wrap ((i : Int) + 1) = (i : Int) + 1 := by rw [IntKind.wrap_i64]; omega
      have hb1 : (0 : Int) ≤ (i : Int) + 1 := by omega
      have htn : ((i : Int) + 1).toNat = i + 1 := by omega
      have hb2 : ¬ (G = i + 1) := by omega
      have hb3 : (i : Int) ≤ (n : Int) := by omega
      have hb4 : (i : Int) + 1 ≤ (n : Int) + 1 := by omega
      clear hg3 hc3
      go_region_law_o (refine step_copyB _ rfl _ _ 192 rfl 196 6 Try.underlying192 sizeObj w.heap.size ((i + 1) * 6) (n - i) (G - (i + 1)) (by simp [Act.eval, Act.put]) (some ⟨g, i * 6, none⟩) (n - i) (n - i) (by simp [Act.eval, Act.put]) (putAt R.toList (i * 6) vs).toArray 196 HG3.out (n - i) (by simp only [Nat.min_def]; split <;> omega) (xs.drop (i * 6)) HDL.out (fun h => by cases h) (fun a ha j u hu => by cases ha; rw [add_zero_]; exact HE3.out.cell_ (HXC.out _ _ (by rwa [List.getElem?_drop] at hu))) (by rw [HDL.out, List.size_toArray, hlp1]; omega) (fun u hu => HX1.out u (List.mem_of_mem_drop hu)) ?_)
      have hg4 := setRow_heap w3.drew w.heap.size _ (putAt (putAt R.toList (i * 6) vs) ((i + 1) * 6) (xs.drop (i * 6))).toArray 196 (0, 0) HG3.out
      have he4 := HE3.out.chg (Chg.trans (Chg.drew (Chg.refl (fun i => i = w.heap.size) w3)) (setRow_chg w3.drew w.heap.size (putAt (putAt R.toList (i * 6) vs) ((i + 1) * 6) (xs.drop (i * 6))).toArray)) fun j hj => by rw [hj]; exact Nat.le_refl _
      have HG4 := Lib.hid hg4
      have HE4 := Lib.hid he4
      clear hg4 he4
      generalize w3.drew.setRow w.heap.size (putAt (putAt R.toList (i * 6) vs) ((i + 1) * 6) (xs.drop (i * 6))).toArray = w4 at *
      go_wp2_with fail
      go_ret
      refine ⟨_, _, rfl, ?_, Below.chg HE4.out⟩
      have := own_blk (S := S) (n := n + 1) (c := G) (size := 6) HG4.out hge (by simp only [maxLen]; omega) (by rw [List.size_toArray, putAt_length (by rw [hlp1, HDL.out]; omega), hlp1]) (HS.out _ (Nat.le_refl _))
      rw [List.toList_toArray, grown hRt hlen hvl hi hrl2 hge] at this
      simpa only [List.append_assoc] using this
set_option maxHeartbeats 2000000 in
set_option maxRecDepth 100000 in
theorem deleteObj (S : Nat → Prop) (A : Option Addr) (n c i : Nat) (xs : List Value) (w : World) (ho : Own w S 196 6 (.slice A n c) n xs) (hi : i < n) (hx1 : ∀ u ∈ xs, u.oneCell' = true) (hb : n * 72 ≤ 140737488355328) :
    Calls Try.prog 220 #[.slice A n c, .int .i64 i, .int .i64 ((i + 1 : Nat) : Int)] w fun e w' => ∃ A' c', e = .returned (.slice A' (n - 1) c') ∧ Own w' S 196 6 (.slice A' (n - 1) c') (n - 1) (xs.take (i * 6) ++ xs.drop ((i + 1) * 6)) ∧ Chg (fun j => (Value.slice A n c).ownBlock = some j) w w' := by
  have hlen : xs.length = n * 6 := ho.row.1
  rcases A with _ | ad
  · have := own_none ho
    omega
  obtain ⟨g, cur, rfl, hg, hnc, hcm, hcs, hcx, hSg, _⟩ := blk_own ho
  simp only [maxLen] at hcm
  have HX1 := Lib.hid hx1
  have HG := Lib.hid hg
  have hxc : ∀ j u, xs[j]? = some u → w.cell? ⟨g, j, none⟩ = some u := fun j u hu => cell_blk hg (by
    rw [← hcx] at hu
    have hj := (List.getElem?_eq_some_iff.1 hu).1
    rwa [List.getElem?_take_of_lt (by rw [List.length_take] at hj; omega)] at hu)
  have HXC := Lib.hid hxc
  have hdl : (xs.drop ((i + 1) * 6)).length = (n - (i + 1)) * 6 := by rw [List.length_drop, hlen]; omega
  have HDL := Lib.hid hdl
  have hlen2 : cur.toList.length = c * 6 := by simpa using hcs
  have mixed : Try.prog.follows .mixedOrders = true := by kernel_rfl
  have hni : ¬ ((i : Int) = (i : Int) + 1) := by omega
  have hni2 : ¬ (c = i) := by omega
  have hin : (i : Int) + 1 ≤ (n : Int) := by omega
  clear ho hx1 hg hxc hdl
  go_enter Try.func220, Try.ntmps220
  go_upto_region 5 with fail
  have hic : i ≤ c := by omega
  have hb1 : (0 : Int) ≤ (i : Int) + 1 := by omega
  have htn : ((i : Int) + 1).toNat = i + 1 := by omega
  have hij : i + 1 ≤ n := by omega
  have hwi : IntKind.i64.wrap (i : Int) = i := by rw [IntKind.wrap_i64]; omega
  have hg1 := setRow_heap w.drew g cur (putAt cur.toList (i * 6) (xs.drop ((i + 1) * 6))).toArray 196 (0, 0) HG.out
  have hc1 := Chg.trans (Chg.drew (Chg.refl (fun i => i = g) w)) (setRow_chg w.drew g (putAt cur.toList (i * 6) (xs.drop ((i + 1) * 6))).toArray)
  have HG1 := Lib.hid hg1
  have HC1 := Lib.hid hc1
  clear hg1 hc1
  have hin2 : i + (n - (i + 1)) = n - 1 := by omega
  have hl1 : (putAt cur.toList (i * 6) (xs.drop ((i + 1) * 6))).length = c * 6 := by rw [putAt_length (by rw [HDL.out]; omega)]; exact hlen2
  have hfin : ∀ w3, w3.heap[g]? = some (.cells (putAt (putAt cur.toList (i * 6) (xs.drop ((i + 1) * 6))) ((n - 1) * 6) (Builtin.zeroCells (Value.cells (.agg #[.int .u32 0, .string ByteArray.empty, .int .i64 0, .int .i64 0, .int .i64 0, .slice none 0 0])) 1).toList).toArray 196 (0, 0)) → Own w3 S 196 6 (.slice (some ⟨g, 0, none⟩) (n - 1) c) (n - 1) (xs.take (i * 6) ++ xs.drop ((i + 1) * 6)) := fun w3 hg3 => by
    have hzl : (Builtin.zeroCells (Value.cells (.agg #[.int .u32 0, .string ByteArray.empty, .int .i64 0, .int .i64 0, .int .i64 0, .slice none 0 0])) 1).toList.length = 6 := by rw [Array.length_toList, zeroCells_size]; rfl
    have := own_blk (S := S) (n := n - 1) (c := c) (size := 6) hg3 (by omega) (by simp only [maxLen]; omega) (by rw [List.size_toArray, putAt_length (by rw [hl1, hzl]; omega), hl1]) hSg
    rw [List.toList_toArray, cutout hcx hlen hi hlen2 hnc] at this
    exact this
  have HFIN := Lib.hid hfin
  clear hfin
  by_cases hce : c = i + 1
  · subst hce
    obtain rfl : n = i + 1 := by omega
    have hii : (i : Int) ≤ (i : Int) + 1 := by omega
    have hi1 : ¬ (i + 1 = i) := by omega
    have hnn : i + 1 - i = 1 := by omega
    go_region_law_o (go_loud (refine step_append_in _ rfl _ _ 192 rfl 196 6 Try.underlying192 sizeObj g i (i + 1) (by simp [Act.eval, Act.put]) (some ⟨g, 0, none⟩) 0 0 (by simp [Act.eval, Act.put]) cur 196 HG.out (xs.drop ((i + 1) * 6)) (by rw [HDL.out]; omega) (by omega) (fun h => by cases h) (fun a ha j u hu => by have := (List.getElem?_eq_some_iff.1 hu).1; rw [HDL.out] at this; omega) (by rw [HDL.out]; omega) (fun u hu => HX1.out u (List.mem_of_mem_drop hu)) ?_))
    try simp only [hin2]
    generalize w.drew.setRow g (putAt cur.toList (i * 6) (xs.drop ((i + 1) * 6))).toArray = w1 at *
    go_simp
    go_wp2_with (refine wpList_clearB _ rfl _ 192 rfl 196 (.agg #[.int .u32 0, .string ByteArray.empty, .int .i64 0, .int .i64 0, .int .i64 0, .slice none 0 0]) 6 Try.underlying192 zsizeObj rfl g (i * 6) 1 1 rfl (by omega) (putAt cur.toList (i * 6) (xs.drop ((i + 1) * 6))).toArray 196 HG1.out (by rw [List.size_toArray, hl1]; omega) (by intro u hu; revert u; simp [Value.cells, Value.oneCell']) ?_; intro w3 hg3 hc3)
    go_ret
    exact ⟨_, _, rfl, HFIN.out w3 hg3, (Chg.trans HC1.out hc3).mono fun j _ hj => by rw [hj]; rfl⟩
  · go_region_law_o (refine step_append_in _ rfl _ _ 192 rfl 196 6 Try.underlying192 sizeObj g i c (by simp [Act.eval, Act.put]) (some ⟨g, (i + 1) * 6, none⟩) (n - (i + 1)) (c - (i + 1)) (by simp [Act.eval, Act.put]) cur 196 HG.out (xs.drop ((i + 1) * 6)) HDL.out (by omega) (fun h => by cases h) (fun a ha j u hu => by cases ha; rw [add_zero_]; exact HXC.out _ _ (by rwa [List.getElem?_drop] at hu)) (by rw [HDL.out]; omega) (fun u hu => HX1.out u (List.mem_of_mem_drop hu)) ?_)
    try simp only [hin2]
    generalize w.drew.setRow g (putAt cur.toList (i * 6) (xs.drop ((i + 1) * 6))).toArray = w1 at *
    have hnn : n - (n - 1) = 1 := by omega
    have hcn : ¬ (c = n - 1) := by omega
    have hpn : ((n - 1 : Nat) : Int) ≤ (n : Int) := by omega
    have hpn2 : n - 1 ≤ n := by omega
    go_simp
    go_wp2_with (refine wpList_clearB _ rfl _ 192 rfl 196 (.agg #[.int .u32 0, .string ByteArray.empty, .int .i64 0, .int .i64 0, .int .i64 0, .slice none 0 0]) 6 Try.underlying192 zsizeObj rfl g ((n - 1) * 6) 1 (c - (n - 1)) rfl (by omega) (putAt cur.toList (i * 6) (xs.drop ((i + 1) * 6))).toArray 196 HG1.out (by rw [List.size_toArray, hl1]; omega) (by intro u hu; revert u; simp [Value.cells, Value.oneCell']) ?_; intro w3 hg3 hc3)
    go_ret
    exact ⟨_, _, rfl, HFIN.out w3 hg3, (Chg.trans HC1.out hc3).mono fun j _ hj => by rw [hj]; rfl⟩
end Go.Proofs.Ytipmkddcdnbihaa.Inserts
/- What begins, walked; what a changed table is. -/
namespace Go.Proofs.Ytipmkddcdnbihaa.Tbl
open Go.RowKit Base Step Vec Shape Erase
/-- A table, in memory and out of it. -/
structure Tb where
  nx : Int
  ls : Int
  A : Option Addr
  n : Nat
  c : Nat
  objs : List Obj
abbrev TbAt (w : World) (gt sl nd : Nat) (t : Tb) : Prop := TblAt w gt sl nd t.nx t.ls t.A t.n t.c t.objs
/-- A call that answers so, and leaves such a table: all else that was there is as it was. -/
def Did (w : World) (gt sl nd : Nat) (code : Int) (R : Tb → World → Prop) (e : Ending) (w' : World) : Prop :=
  e = .returned (.int .i64 code) ∧ Chg (fun i => i = gt) w w' ∧ ∃ t, TbAt w' gt sl nd t ∧ R t w'
/-- An operation's cells. -/
abbrev opL (o : Op) : List Value := [.int .i64 o.kind, .int .u32 o.num, .string o.name, .int .i64 o.l, .int .i64 o.c, .int .i64 o.p, .slice o.A o.n o.cap, .int .i64 o.stripe, .int .i64 o.slot, .int .i64 o.node, .int .u32 o.gen]
/-- The table's block, written anew. -/
theorem TblAt.put {w w' : World} {gt sl nd : Nat} {nx' ls' : Int} {A' : Option Addr} {n' c' : Nat} {objs' : List Obj} (hc : Chg (fun i => i = gt) w w') (hb : w'.heap[gt]? = some (.cells #[.int .i64 sl, .int .i64 nd, .int .u32 nx', .int .u32 ls', .slice A' n' c'] 194 (0, 0)))
    (hok : (Sh.sl objS).ok (erase w gt) (A', n', c', objs')) : TblAt w' gt sl nd nx' ls' A' n' c' objs' := ⟨hb, Sh.ok_ext (erase_chg hc) _ _ hok⟩
def beginC (nx : Int) (o : Op) : Int := if o.num = nx ∧ o.num ≠ 4294967295 then 0 else 28
set_option maxRecDepth 100000 in
set_option maxHeartbeats 2000000 in
theorem begin_calls (gt sl nd : Nat) (t : Tb) (o : Op) (w : World) (h : TbAt w gt sl nd t) (hx0 : 0 ≤ t.nx) (hx1 : t.nx ≤ 4294967295) :
    Calls Try.prog 160 #[.pointer (some ⟨gt, 0, none⟩), opV o] w (Did w gt sl nd (beginC t.nx o) fun t' _ => t' = if beginC t.nx o = 0 then { t with nx := t.nx + 1 } else t) := by
  obtain ⟨nx, ls, A, n, c, objs⟩ := t
  have hx0 : 0 ≤ nx := hx0
  have hx1 : nx ≤ 4294967295 := hx1
  have h : TblAt w gt sl nd nx ls A n c objs := h
  obtain ⟨Q, hQ⟩ : ∃ Q, Q = Did w gt sl nd (beginC nx o) fun t' _ => t' = if beginC nx o = 0 then ⟨nx + 1, ls, A, n, c, objs⟩ else ⟨nx, ls, A, n, c, objs⟩ := ⟨_, rfl⟩
  have HQ := Lib.hid hQ
  show Calls Try.prog 160 #[.pointer (some ⟨gt, 0, none⟩), opV o] w (Did w gt sl nd (beginC nx o) fun t' _ => t' = if beginC nx o = 0 then ⟨nx + 1, ls, A, n, c, objs⟩ else ⟨nx, ls, A, n, c, objs⟩)
  rw [← hQ]
  clear hQ
  have e0 := Lib.hid (Ext.new w (.cells (opC o) 82))
  have hb := at_new w (.cells (opC o) 82)
  have H := Lib.hid h
  clear h
  go_enter Try.func160, Try.ntmps160
  go_upto_region 1 with fail
  generalize w.alloc (.cells (opC o) 82) = w1 at *
  have hat := (H.out.ext e0.out).at_
  have b1 : w1.cell? ⟨w.heap.size, 1, none⟩ = some (.int .u32 o.num) := blk_cell (i := 1) hb (Ext.refl _) rfl
  have t2 : w1.cell? ⟨gt, 2, none⟩ = some (.int .u32 nx) := blk_cell (i := 2) hat (Ext.refl _) rfl
  have f2 : w1.frozen? ⟨gt, 2, none⟩ = false := Pack.free_of hat 2
  have HB := Lib.hid hb
  have HAT := Lib.hid hat
  clear hb hat
  by_cases h1 : o.num = nx ∧ o.num ≠ 4294967295
  · have hbc : beginC nx o = 0 := by unfold beginC; rw [if_pos h1]
    have HBC := Lib.hid hbc
    obtain ⟨h1, h2⟩ := h1
    have hd1 : (o.num != nx) = false := by simp [h1]
    have hd2 : (o.num == 4294967295) = false := by simp [h2]
    have hw : IntKind.u32.wrap (nx + 1) = nx + 1 := wrap_u32 (by omega) (by omega)
    clear hbc h1 h2
    go_quiet (fail)
    go_wp2_with fail
    rw [HQ.out, HBC.out]
    have hs := set_blk (w := w1.drewN nq) (i := 2) HAT.out (.int .u32 (nx + 1))
    have hc : Chg (fun i => i = gt) w1 ((w1.drewN nq).setCell ⟨gt, 2, none⟩ (.int .u32 (nx + 1))) := (Chg.drewN (Chg.refl (fun i => i = gt) w1) nq).setCell (p := ⟨gt, 2, none⟩) rfl _
    have hok := Sh.ok_ext (erase_ext e0.out) _ _ H.out.ok
    exact ⟨rfl, ext_chg e0.out hc, ⟨nx + 1, ls, A, n, c, objs⟩, TblAt.put hc (by simpa using hs) hok, (if_pos rfl).symm⟩
  · have hbc : beginC nx o = 28 := by unfold beginC; rw [if_neg h1]
    have HBC := Lib.hid hbc
    have hst : ∀ nq, TblAt (w1.drewN nq) gt sl nd nx ls A n c objs := fun nq => (H.out.ext e0.out).ext (Ext.drewN (Ext.refl _) nq)
    have HST := Lib.hid hst
    have hcc : ∀ nq, Chg (fun i => i = gt) w (w1.drewN nq) := fun nq => Below.chg (Ext.drewN e0.out nq)
    by_cases h2 : o.num = nx
    · have h3 : o.num = 4294967295 := by
        rcases Decidable.em (o.num = 4294967295) with h | h
        · exact h
        · exact absurd ⟨h2, h⟩ h1
      have hd1 : (o.num != nx) = false := by simp [h2]
      have hd2 : (o.num == 4294967295) = true := by simp [h3]
      clear hbc h1 h2 h3 hst
      go_quiet (fail)
      go_wp2_with fail
      rw [HQ.out, HBC.out]
      exact ⟨rfl, hcc _, ⟨nx, ls, A, n, c, objs⟩, HST.out _, (if_neg (by decide)).symm⟩
    · have hd1 : (o.num != nx) = true := by simp [h2]
      clear hbc h1 h2 hst
      go_quiet (fail)
      go_wp2_with fail
      rw [HQ.out, HBC.out]
      exact ⟨rfl, hcc _, ⟨nx, ls, A, n, c, objs⟩, HST.out _, (if_neg (by decide)).symm⟩
theorem cellsL_app (e : Sh) (l m : List e.T) : cellsL e (l ++ m) = cellsL e l ++ cellsL e m := by simp [cellsL]
theorem cellsL_take (e : Sh) : ∀ (l : List e.T) (i : Nat), (cellsL e l).take (i * e.size) = cellsL e (l.take i)
  | [], i => by simp [cellsL]
  | x :: l, 0 => by simp [cellsL]
  | x :: l, i + 1 => by
    have h1 : cellsL e (x :: l) = e.cells x ++ cellsL e l := rfl
    have h2 : cellsL e ((x :: l).take (i + 1)) = e.cells x ++ cellsL e (l.take i) := rfl
    rw [h1, h2, Nat.succ_mul, List.take_append, List.take_of_length_le (by rw [e.cells_length]; omega), e.cells_length, Nat.add_sub_cancel, cellsL_take e l i]
theorem cellsL_drop (e : Sh) : ∀ (l : List e.T) (i : Nat), (cellsL e l).drop (i * e.size) = cellsL e (l.drop i)
  | [], i => by simp [cellsL]
  | x :: l, 0 => by simp
  | x :: l, i + 1 => by
    have h1 : cellsL e (x :: l) = e.cells x ++ cellsL e l := rfl
    have h2 : cellsL e ((x :: l).drop (i + 1)) = cellsL e (l.drop i) := rfl
    rw [h1, h2, Nat.succ_mul, List.drop_append, List.drop_of_length_le (by rw [e.cells_length]; omega), e.cells_length, Nat.add_sub_cancel, cellsL_drop e l i, List.nil_append]
theorem cellsL_one_ (e : Sh) (l : List e.T) : ∀ u ∈ cellsL e l, u.oneCell' = true := fun u hu => by
  obtain ⟨x, _, hx⟩ := List.mem_flatMap.1 hu
  exact Sh.cells_one e x u hx
theorem own_max {w : World} {S : Nat → Prop} {e : TypeId} {size n c : Nat} {A : Option Addr} {xs : List Value} (h : Own w S e size (.slice A n c) n xs) : c ≤ maxLen := by
  rcases A with _ | ad
  · have := (Splice.own_none h).2.1
    omega
  · obtain ⟨g, cur, _, _, _, h1, _⟩ := Splice.blk_own h
    exact h1
/-- The objects of a new row. -/
theorem new_objs {w W : World} {gt : Nat} {A : Option Addr} {n c : Nat} {objs : List Obj} (hgt : gt < w.heap.size) (ho : Own W (fun i => w.heap.size ≤ i) 196 6 (.slice A n c) n (cellsL objS objs)) (hl : objs.length = n) (hx : ∀ x ∈ objs, objS.ok (erase W gt) x) : (Sh.sl objS).ok (erase W gt) (A, n, c, objs) :=
  ok_own (W := W) ho (by decide) hl hx (fun a v hb hc => cell_erase hc (own_not ho (by decide) hb) fun e => by
    rcases A with _ | ad
    · simp at hb
    · simp at hb
      have := ho.foot ad.block rfl
      omega) (own_max ho)
theorem objs_ext {w w' : World} {gt : Nat} {A : Option Addr} {n c : Nat} {objs : List Obj} (h : (Sh.sl objS).ok (erase w gt) (A, n, c, objs)) (he : Ext w w') : ∀ x ∈ objs, objS.ok (erase w' gt) x := fun x hx => by
  obtain ⟨i, hi, hix⟩ := List.getElem_of_mem hx
  exact Sh.ok_ext (erase_ext he) _ _ (sl_each h (i := i) (by rw [List.getElem?_eq_getElem hi, hix]))
/-- What stands behind a removal. -/
def removed (t : Tb) (i : Nat) (t' : Tb) : Prop := t'.nx = t.nx ∧ t'.ls = t.ls ∧ t'.objs = t.objs.take i ++ t.objs.drop (i + 1)
def removeC (t : Tb) (o : Op) : Int := if there t.objs o.name then 0 else 6
set_option maxRecDepth 100000 in
set_option maxHeartbeats 2000000 in
theorem remove_calls (gt sl nd : Nat) (t : Tb) (o : Op) (w : World) (h : TbAt w gt sl nd t) (hn : t.n ≤ 1099511627776) :
    Calls Try.prog 162 #[.pointer (some ⟨gt, 0, none⟩), opV o] w (Did w gt sl nd (removeC t o) fun t' _ => if there t.objs o.name then removed t (place t.objs o.name) t' else t' = t) := by
  obtain ⟨Q, hQ⟩ : ∃ Q, Q = Did w gt sl nd (removeC t o) fun t' _ => if there t.objs o.name then removed t (place t.objs o.name) t' else t' = t := ⟨_, rfl⟩
  have HQ := Lib.hid hQ
  rw [← hQ]
  clear hQ
  obtain ⟨nx, ls, A, n, c, objs⟩ := t
  have hn : n ≤ 1099511627776 := hn
  have h : TblAt w gt sl nd nx ls A n c objs := h
  have e0 := Lib.hid (Ext.new w (.cells (opC o) 82))
  have hb := at_new w (.cells (opC o) 82)
  have H := Lib.hid h
  clear h
  go_enter Try.func162, Try.ntmps162
  go_upto_region 1 with fail
  generalize w.alloc (.cells (opC o) 82) = w1 at *
  have b2 : w1.cell? ⟨w.heap.size, 2, none⟩ = some (.string o.name) := blk_cell (i := 2) hb (Ext.refl _) rfl
  have H1 := Lib.hid (H.out.ext e0.out)
  clear hb
  go_wp2_with fail
  refine (index_calls gt sl nd nx ls A n c objs o.name w1 H1.out hn).mono ?_
  rintro e w2 ⟨rfl, he2⟩
  have H2 := Lib.hid (H1.out.ext he2)
  have HE2 := Lib.hid (e0.out.trans he2)
  clear he2
  cases hth : there objs o.name with
  | false =>
    have HTH := Lib.hid hth
    clear hth
    go_wp2_with fail
    rw [HQ.out]
    unfold removeC
    dsimp only
    rw [HTH.out]
    exact ⟨rfl, Below.chg HE2.out, ⟨nx, ls, A, n, c, objs⟩, H2.out, rfl⟩
  | true =>
    have HTH := Lib.hid hth
    obtain ⟨ob, hob, _⟩ := there_at hth
    have hpl : place objs o.name < n := by
      have h1 := (List.getElem?_eq_some_iff.1 hob).1
      have h2 := (sl_len H2.out.ok).1
      omega
    clear hth hob
    generalize hpp : place objs o.name = k at *
    have HPP := Lib.hid hpp
    clear hpp
    obtain ⟨hl, hnc, hcm, hA0⟩ := sl_len H2.out.ok
    have t4 : w2.cell? ⟨gt, 4, none⟩ = some (.slice A n c) := blk_cell (i := 4) H2.out.at_ (Ext.refl _) rfl
    have HL := Lib.hid hl
    clear hl
    go_wp2_with fail
    refine (Clones.cloneObj A n c (cellsL objS objs) w2 (by rw [cellsL_length, HL.out]; rfl) (fun h => by have := hA0 h; omega) (fun ad ha j u hu => ok_cells (Sh.ok_off H2.out.ok) (by decide) ad ha j u hu) (cellsL_one_ _ _) (by omega)).mono ?_
    rintro e w3 ⟨he3, A3, c3, rfl, ho3⟩
    have HE3 := Lib.hid (HE2.out.trans he3)
    have HE3b := Lib.hid he3
    have HO3 := Lib.hid ho3
    clear he3 ho3 t4 hA0
    go_wp2_with fail
    refine (Inserts.deleteObj (fun i => w2.heap.size ≤ i) A3 n c3 k (cellsL objS objs) w3 HO3.out hpl (cellsL_one_ _ _) (by omega)).mono ?_
    rintro e w4 ⟨A4, c4, rfl, ho4, hc4⟩
    have he4 : Ext w2 w4 := HE3b.out.chg hc4 fun i hi => HO3.out.foot i hi
    have HE4 := Lib.hid he4
    have H4 := Lib.hid (H2.out.ext he4)
    have t4 : w4.cell? ⟨gt, 4, none⟩ = some (.slice A n c) := blk_cell (i := 4) H4.out.at_ (Ext.refl _) rfl
    have f4 : w4.frozen? ⟨gt, 4, none⟩ = false := Pack.free_of H4.out.at_ 4
    have hcut : (cellsL objS objs).take (k * 6) ++ (cellsL objS objs).drop ((k + 1) * 6) = cellsL objS (objs.take k ++ objs.drop (k + 1)) := by
      rw [cellsL_app, ← cellsL_take, ← cellsL_drop]; rfl
    rw [hcut] at ho4
    have HO4 := Lib.hid ho4
    clear ho4 he4 hc4 hcut
    go_wp2_with fail
    rw [HQ.out]
    unfold removeC
    dsimp only
    rw [HTH.out]
    have hc : Chg (fun i => i = gt) w4 (w4.setCell ⟨gt, 4, none⟩ (.slice A4 (n - 1) c4)) := (Chg.refl (fun i => i = gt) w4).setCell (p := ⟨gt, 4, none⟩) rfl _
    have hs := set_blk (w := w4) (i := 4) H4.out.at_ (.slice A4 (n - 1) c4)
    have hok := new_objs (gt := gt) H2.out.lt HO4.out (by rw [List.length_append, List.length_take, List.length_drop, HL.out]; omega) fun x hx => objs_ext H4.out.ok (Ext.refl _) x ((List.mem_append.1 hx).elim List.mem_of_mem_take List.mem_of_mem_drop)
    exact ⟨rfl, ext_chg (HE2.out.trans HE4.out) hc, ⟨nx, ls, A4, n - 1, c4, _⟩, TblAt.put hc (by simpa using hs) hok, rfl, rfl, rfl⟩
end Go.Proofs.Ytipmkddcdnbihaa.Tbl
/- An object is let be there, walked. -/
namespace Go.Proofs.Ytipmkddcdnbihaa.Tbl
open Go.RowKit Base Step Vec Shape Erase
section
variable {P : Program}
/-- A struct is loaded, guarded or not. -/
theorem wpList_load_rowG {ops : Array Oper} {rest : List Oper} {o : Oper} {a : Act} {w : World} {Q : Exit → Act → World → Prop} (hgd : Region.wanted o (yielded ops a.tmps) = true) (ty : TypeId) (x : Operand) (ho : o.op = .load ty x)
    (g : Nat) (hx : a.eval x = .pointer (some ⟨g, 0, none⟩)) (t : TypeId) (cs : Array Value) (fr : Nat × Nat) (d : TypeDesc) (hg : w.heap[g]? = some (.cells cs t fr))
    (hu : P.underlying ty = some d) (hd : (match d with | .struct _ | .array _ _ => true | _ => false) = true) (hi : (P.info? ty).map (·.size) = some cs.size)
    (h : wpList P ops Q rest (a.put o.dst (.agg cs)) w) : wpList P ops Q (o :: rest) a w := by
  refine wpList_step fun K hK => ?_
  rw [if_pos hgd]
  exact wp_load_row ty x ho g hx t cs fr d hg hu hd hi (hK _ _ h)
end
/-- An operation whose data can be walked. -/
structure OpAt (w : World) (o : Op) : Prop where
  num : (Lit.int .u32 o.num).wf = true
  name : o.name.size ≤ 140737488355328
  l : (Lit.int .i64 o.l).wf = true
  c : (Lit.int .i64 o.c).wf = true
  p : (Lit.int .i64 o.p).wf = true
  rows : (Sh.sl rowS).ok w (o.A, o.n, o.cap, o.rows)
  few : o.n ≤ 1099511627776
  each : ∀ r ∈ o.rows, rN r ≤ 8796093021952
  gen : (Lit.int .u32 o.gen).wf = true
  node : (Lit.int .i64 o.node).wf = true
theorem OpAt.ext {w w' : World} {o : Op} (h : OpAt w o) (he : Ext w w') : OpAt w' o := ⟨h.num, h.name, h.l, h.c, h.p, Sh.ok_ext he _ _ h.rows, h.few, h.each, h.gen, h.node⟩
/-- The object of an operation. -/
def obOf (o : Op) : Obj := (o.num, o.name, (o.l, o.c, o.p, ()), (o.A, o.n, o.cap, o.rows), ())
theorem obOf_ok {w : World} {o : Op} (h : OpAt w o) : objS.ok w (obOf o) := by
  have h1 : (Lit.int .u32 o.num).wf = true ∧ o.name.size ≤ maxLen ∧ planS.ok w (o.l, o.c, o.p, ()) ∧ (Sh.sl rowS).ok w (o.A, o.n, o.cap, o.rows) ∧ True :=
    ⟨h.num, by have := h.name; simp only [maxLen]; omega, ⟨h.l, h.c, h.p, trivial⟩, h.rows, trivial⟩
  exact h1
/-- A copy is a datum, beside an old block. -/
theorem Copied.ok {w w' : World} {o o' : Obj} {gt : Nat} (h : Copied w w' o o') (ho : objS.ok w o) (hgt : gt < w.heap.size) : objS.ok (erase w' gt) o' := by
  obtain ⟨h1, h2, h3, h4⟩ := obj_ok ho
  have hpl := (sl_len h4).1
  have hplan : planS.ok (erase w' gt) (Tbl.plan o') := by rw [h.plan]; exact h3
  have hrows : (Sh.sl rowS).ok (erase w' gt) (pA o', pN o', pC o', rows o') := by
    refine ok_own (W := w') (e := rowS) h.prow (by decide) (by rw [h.rlen, h.len]; exact hpl) (fun r' hr' => ?_) (fun a v hb hc => cell_erase hc (own_not h.prow (by decide) hb) fun e => ?_) (own_max h.prow)
    · obtain ⟨i, hi, hir⟩ := List.getElem_of_mem hr'
      have hi2 : i < (rows o).length := by rw [← h.rlen]; exact hi
      obtain ⟨r, hr⟩ : ∃ r, (rows o)[i]? = some r := ⟨_, List.getElem?_eq_getElem hi2⟩
      obtain ⟨⟨ha1, ha2⟩, hn⟩ := h.alike i r r' hr (by rw [List.getElem?_eq_getElem hi, hir])
      have hrok : (Sh.sl plS).ok w (rA r, rN r, rC r, rP r) := sl_each h4 hr
      have hrl := (sl_len hrok).1
      refine ok_own (W := w') (e := plS) hn (by decide) (by show (rP r').length = rN r'; rw [ha2, ha1]; exact hrl) (fun x hx => ?_) (fun a v hb hc => cell_erase hc (own_not hn (by decide) hb) fun e => ?_) (own_max hn)
      · have hx : x ∈ rP r' := hx
        rw [ha2] at hx
        obtain ⟨j, hj, hjx⟩ := List.getElem_of_mem hx
        have := sl_each hrok (i := j) (x := x) (by rw [List.getElem?_eq_getElem hj, hjx])
        exact this
      · cases hA : r'.1 with
        | none => rw [hA] at hb; simp at hb
        | some ad =>
          rw [hA] at hb
          simp at hb
          have hfo : w.heap.size ≤ ad.block := hn.foot ad.block (by show Value.ownBlock (.slice r'.1 _ _) = _; rw [hA]; rfl)
          omega
    · cases hA : pA o' with
      | none => rw [hA] at hb; simp at hb
      | some ad =>
        rw [hA] at hb
        simp at hb
        have hfo : w.heap.size ≤ ad.block := h.prow.foot ad.block (by rw [hA]; rfl)
        omega
  have hall : (Lit.int .u32 o'.1).wf = true ∧ o'.2.1.size ≤ maxLen ∧ planS.ok (erase w' gt) o'.2.2.1 ∧ (Sh.sl rowS).ok (erase w' gt) (pA o', pN o', pC o', rows o') ∧ True :=
    ⟨by show (Lit.int .u32 (Tbl.num o')).wf = true; rw [h.num]; exact h1, by show (Tbl.name o').size ≤ maxLen; rw [h.name]; exact h2, hplan, hrows, trivial⟩
  exact hall
/-- The call's answer: a copy. -/
def copL (w0 : World) (o : Obj) : Lex.Loose := ⟨fun v => ∃ A c, v = .agg #[.int .u32 (num o), .string (name o), .int .i64 (plan o).1, .int .i64 (plan o).2.1, .int .i64 (plan o).2.2.1, .slice A (pN o) c], fun v W => ∃ o', v = objV o' ∧ Copied w0 W o o'⟩
theorem copL_st {w0 : World} {o : Obj} : (copL w0 o).St Ext := fun _ _ _ ⟨o', h1, h2⟩ he => ⟨o', h1, h2.ext_ he⟩
/-- .. and a row that holds it. -/
def litL (w0 : World) (o : Obj) : Lex.Loose := ⟨fun v => ∃ g, v = .slice (some ⟨g, 0, none⟩) 1 1, fun v W => ∃ g o', v = .slice (some ⟨g, 0, none⟩) 1 1 ∧ w0.heap.size ≤ g ∧ W.heap[g]? = some (.cells (objC o').toArray 196 (0, 0)) ∧ Copied w0 W o o'⟩
theorem litL_st {w0 : World} {o : Obj} : (litL w0 o).St Ext := fun _ _ _ ⟨g, o', h1, h2, h3, h4⟩ he => ⟨g, o', h1, h2, he.at_ h3, h4.ext_ he⟩
end Go.Proofs.Ytipmkddcdnbihaa.Tbl
/- An object is let be there, walked: commit. -/
namespace Go.Proofs.Ytipmkddcdnbihaa.Tbl
open Go.RowKit Base Step Vec Shape Erase
/-- An object like an operation's. -/
structure Like (o : Op) (ob : Obj) : Prop where
  num : num ob = o.num
  name : name ob = o.name
  plan : plan ob = (o.l, o.c, o.p, ())
  len : (rows ob).length = o.rows.length
  alike : ∀ (i : Nat) (r r' : Row), o.rows[i]? = some r → (rows ob)[i]? = some r' → Alike r r'
theorem Copied.like {w w' : World} {o : Op} {ob : Obj} (h : Copied w w' (obOf o) ob) : Like o ob := ⟨h.num, h.name, h.plan, h.rlen, fun i r r' h1 h2 => (h.alike i r r' h1 h2).1⟩
theorem Copied.kind {w w' w2 : World} {o o' : Obj} {S : Nat → Prop} (h : Copied w w' o o') (hc : Chg S w' w2) (hk : ∀ i, S i → i < w'.heap.size → ∃ c f, w'.heap[i]? = some (.cells c 196 f)) (hn : ∀ i, S i → w.heap.size ≤ i) : Copied w w2 o o' := by
  have hk : ∀ e, e ≠ 196 → ∀ i, S i → i < w'.heap.size → ∃ c e' f, w'.heap[i]? = some (.cells c e' f) ∧ e ≠ e' := fun e he i hi hlt => by
    obtain ⟨c, f, hh⟩ := hk i hi hlt
    exact ⟨c, _, f, hh, he⟩
  exact ⟨h.num, h.name, h.plan, h.len, Own.kind h.prow hc (hk _ (by decide)), h.rlen, fun i r r' h1 h2 => ⟨(h.alike i r r' h1 h2).1, Own.kind (h.alike i r r' h1 h2).2 hc (hk _ (by decide))⟩, h.apart, h.ext.chg hc hn⟩
/-- What stands behind an object more. -/
def added (t : Tb) (i : Nat) (o : Op) (t' : Tb) : Prop := t'.nx = t.nx ∧ t'.ls = o.num ∧ ∃ ob, Like o ob ∧ t'.objs = t.objs.take i ++ [ob] ++ t.objs.drop i
open Classical in
/-- What commit answers. -/
noncomputable def commitC (sl nd : Nat) (t : Tb) (o : Op) : Int :=
  if ¬ (NameOk o.name ∧ PlanOk sl nd o) then 1
  else if there t.objs o.name = true ∨ 0 ≤ numAt t.objs o.num then 7
  else if o.num ≤ t.ls ∨ t.nx ≤ o.num then 28
  else if 64 ≤ t.n then 20 else 0
def CommitR (sl nd : Nat) (t : Tb) (o : Op) (w : World) (code : Int) (t' : Tb) : Prop := (code ≠ 0 → t' = t) ∧ (code = 0 → NameOk o.name ∧ PlanOk sl nd o ∧ added t (place t.objs o.name) o t')
theorem numAt_ne {objs : List Obj} {k : Int} (h : numAt objs k < 0) : ∀ o ∈ objs, num o ≠ k := by
  rcases numFrom_spec k objs 0 with ⟨_, h2⟩ | ⟨j, o, h1, _, _⟩
  · exact h2
  · unfold numAt at h
    omega
set_option maxRecDepth 100000 in
set_option maxHeartbeats 8000000 in
theorem commit_calls (gt sl nd : Nat) (t : Tb) (o : Op) (w : World) (h : TbAt w gt sl nd t) (hn : t.n ≤ 1099511627776) (hnd : nd ≤ 32) (ho : OpAt w o) :
    Calls Try.prog 161 #[.pointer (some ⟨gt, 0, none⟩), opV o] w (Did w gt sl nd (commitC sl nd t o) fun t' _ => CommitR sl nd t o w (commitC sl nd t o) t') := by
  obtain ⟨nx, ls, A, n, c, objs⟩ := t
  have hn : n ≤ 1099511627776 := hn
  obtain ⟨Q, hQ⟩ : ∃ Q, Q = Did w gt sl nd (commitC sl nd ⟨nx, ls, A, n, c, objs⟩ o) fun t' _ => CommitR sl nd ⟨nx, ls, A, n, c, objs⟩ o w (commitC sl nd ⟨nx, ls, A, n, c, objs⟩ o) t' := ⟨_, rfl⟩
  have HQ := Lib.hid hQ
  rw [← hQ]
  clear hQ
  have h : TblAt w gt sl nd nx ls A n c objs := h
  have e0 := Lib.hid (Ext.new w (.cells (opC o) 82))
  have hb := at_new w (.cells (opC o) 82)
  have H := Lib.hid h
  have HO := Lib.hid ho
  have hns := ho.name
  clear h ho
  -- an answer that leaves the table as it was
  have hno : ∀ (code : Int) (W : World), code ≠ 0 → commitC sl nd ⟨nx, ls, A, n, c, objs⟩ o = code → Ext w W → Q (.returned (.int .i64 code)) W := fun code W h0 hc he => by
    rw [HQ.out, hc]
    exact ⟨rfl, Below.chg he, ⟨nx, ls, A, n, c, objs⟩, H.out.ext he, fun _ => rfl, fun k => absurd k h0⟩
  have HNO := Lib.hid hno
  clear hno
  go_enter Try.func161, Try.ntmps161
  go_upto_region 1 with fail
  generalize w.alloc (.cells (opC o) 82) = w1 at *
  have b2 : w1.cell? ⟨w.heap.size, 2, none⟩ = some (.string o.name) := blk_cell (i := 2) hb (Ext.refl _) rfl
  have HB := Lib.hid hb
  clear hb
  go_wp2_with fail
  refine (rightName_calls o.name w1 hns).mono ?_
  rintro e w2 ⟨he2, b, rfl, hb2⟩
  have HE2 := Lib.hid (e0.out.trans he2)
  have HB2 := Lib.hid (he2.at_ HB.out)
  clear he2 b2
  cases b with
  | false =>
    have hcode : commitC sl nd ⟨nx, ls, A, n, c, objs⟩ o = 1 := by
      unfold commitC
      rw [if_pos]
      exact fun hh => by have := hb2.2 hh.1; cases this
    have HC := Lib.hid hcode
    clear hcode hb2
    go_wp2_with fail
    exact HNO.out 1 _ (by decide) HC.out HE2.out
  | true =>
    have HNAME := Lib.hid (hb2.1 rfl)
    clear hb2
    go_wp2_with (refine wpList_load_rowG rfl 82 _ rfl w.heap.size rfl 82 (opC o) (0, 0) _ HB2.out Try.underlying82 rfl (by kernel_rfl) ?_)
    refine (plan_calls gt sl nd nx ls A n c objs o w2 (H.out.ext HE2.out) (HO.out.ext HE2.out).rows hnd HO.out.few HO.out.each).mono ?_
    rintro e w3 ⟨he3, b, rfl, hb3⟩
    have HE3 := Lib.hid (HE2.out.trans he3)
    have HB3 := Lib.hid (he3.at_ HB2.out)
    clear he3
    cases b with
    | false =>
      have hcode : commitC sl nd ⟨nx, ls, A, n, c, objs⟩ o = 1 := by
        unfold commitC
        rw [if_pos]
        exact fun hh => by have := hb3.2 hh.2; cases this
      have HC := Lib.hid hcode
      clear hcode hb3
      go_wp2_with fail
      exact HNO.out 1 _ (by decide) HC.out HE3.out
    | true =>
      have HPLAN := Lib.hid (hb3.1 rfl)
      clear hb3
      have b2 : w3.cell? ⟨w.heap.size, 2, none⟩ = some (.string o.name) := blk_cell (i := 2) HB3.out (Ext.refl _) rfl
      go_wp2_with fail
      refine (index_calls gt sl nd nx ls A n c objs o.name w3 (H.out.ext HE3.out) hn).mono ?_
      rintro e w4 ⟨rfl, he4⟩
      have HE4 := Lib.hid (HE3.out.trans he4)
      have HB4 := Lib.hid (he4.at_ HB3.out)
      clear he4 b2
      have hok : ¬ ¬ (NameOk o.name ∧ PlanOk sl nd o) := fun k => k ⟨HNAME.out, HPLAN.out⟩
      have HOK := Lib.hid hok
      clear hok
      cases hth : there objs o.name with
      | true =>
        have hcode : commitC sl nd ⟨nx, ls, A, n, c, objs⟩ o = 7 := by
          unfold commitC
          rw [if_neg HOK.out, if_pos]
          exact .inl hth
        have HC := Lib.hid hcode
        clear hcode hth
        go_wp2_with fail
        exact HNO.out 7 _ (by decide) HC.out HE4.out
      | false =>
        have HTH := Lib.hid hth
        clear hth
        have b1 : w4.cell? ⟨w.heap.size, 1, none⟩ = some (.int .u32 o.num) := blk_cell (i := 1) HB4.out (Ext.refl _) rfl
        go_wp2_with fail
        refine (number_calls gt sl nd nx ls A n c objs o.num w4 (H.out.ext HE4.out) hn).mono ?_
        rintro e w5 ⟨rfl, he5⟩
        have HE5 := Lib.hid (HE4.out.trans he5)
        have HB5 := Lib.hid (he5.at_ HB4.out)
        clear he5 b1
        by_cases hnum : 0 ≤ numAt objs o.num
        · have hcode : commitC sl nd ⟨nx, ls, A, n, c, objs⟩ o = 7 := by
            unfold commitC
            rw [if_neg HOK.out, if_pos]
            exact .inr hnum
          have HC := Lib.hid hcode
          clear hcode
          go_wp2_with fail
          exact HNO.out 7 _ (by decide) HC.out HE5.out
        · have hno7 : ¬ (there objs o.name = true ∨ 0 ≤ numAt objs o.num) := fun k => k.elim (fun k => by rw [HTH.out] at k; cases k) hnum
          have HNO7 := Lib.hid hno7
          have HNUM := Lib.hid (numAt_ne (objs := objs) (k := o.num) (by omega))
          clear hno7
          have hat := (H.out.ext HE5.out).at_
          have b1 : w5.cell? ⟨w.heap.size, 1, none⟩ = some (.int .u32 o.num) := blk_cell (i := 1) HB5.out (Ext.refl _) rfl
          have t2 : w5.cell? ⟨gt, 2, none⟩ = some (.int .u32 nx) := blk_cell (i := 2) hat (Ext.refl _) rfl
          have t3 : w5.cell? ⟨gt, 3, none⟩ = some (.int .u32 ls) := blk_cell (i := 3) hat (Ext.refl _) rfl
          clear hat
          go_upto_region 6 with fail
          clear hnum
          by_cases hst : o.num ≤ ls ∨ nx ≤ o.num
          · have hcode : commitC sl nd ⟨nx, ls, A, n, c, objs⟩ o = 28 := by
              unfold commitC
              rw [if_neg HOK.out, if_neg HNO7.out, if_pos]
              exact hst
            have HC := Lib.hid hcode
            clear hcode
            by_cases h1 : o.num ≤ ls
            · have hd1 : decide (o.num ≤ ls) = true := by simp [h1]
              clear hst h1
              go_quiet (fail)
              go_wp2_with fail
              exact HNO.out 28 _ (by decide) HC.out (HE5.out.drewN _)
            · have hd1 : decide (o.num ≤ ls) = false := by simp [h1]
              have hd2 : decide (nx ≤ o.num) = true := by simp; omega
              clear hst h1
              go_quiet (fail)
              go_wp2_with fail
              exact HNO.out 28 _ (by decide) HC.out (HE5.out.drewN _)
          · have HST := Lib.hid hst
            have hd1 : decide (o.num ≤ ls) = false := by simp; omega
            have hd2 : decide (nx ≤ o.num) = false := by simp; omega
            clear hst
            go_quiet (fail)
            have HE6 := Lib.hid (HE5.out.drewN nq)
            have HB6 := Lib.hid ((Ext.drewN (Ext.refl w5) nq).at_ HB5.out)
            clear hd1 hd2 b1 t2 t3
            generalize w5.drewN nq = w6 at *
            have t4 : w6.cell? ⟨gt, 4, none⟩ = some (.slice A n c) := blk_cell (i := 4) (H.out.ext HE6.out).at_ (Ext.refl _) rfl
            by_cases hf : 64 ≤ n
            · have hcode : commitC sl nd ⟨nx, ls, A, n, c, objs⟩ o = 20 := by
                unfold commitC
                rw [if_neg HOK.out, if_neg HNO7.out, if_neg HST.out, if_pos]
                exact hf
              have HC := Lib.hid hcode
              clear hcode
              go_wp2_with fail
              exact HNO.out 20 _ (by decide) HC.out HE6.out
            · have hcode : commitC sl nd ⟨nx, ls, A, n, c, objs⟩ o = 0 := by
                unfold commitC
                rw [if_neg HOK.out, if_neg HNO7.out, if_neg HST.out, if_neg]
                exact hf
              have HC := Lib.hid hcode
              clear hcode
              have hnf : ¬ ((64 : Int) ≤ (n : Int)) := by omega
              go_upto_region 10 with fail
              clear t4 hnf
              have hpl : place objs o.name ≤ n := by
                have h1 := place_le objs o.name
                have h2 := (sl_len H.out.ok).1
                omega
              generalize hpp : place objs o.name = k at *
              have HPP := Lib.hid hpp
              clear hpp
              have H6 := Lib.hid (H.out.ext HE6.out)
              have HO6 := Lib.hid (HO.out.ext HE6.out)
              obtain ⟨hl, hnc, hcm, hA0⟩ := sl_len H6.out.ok
              have HL := Lib.hid hl
              have q4 : ∀ W, Ext w6.drew W → W.cell? ⟨gt, 4, none⟩ = some (.slice A n c) := fun W hW => blk_cell (i := 4) H6.out.at_ (drew_ext hW) rfl
              have p1 : ∀ W, Ext w6.drew W → W.cell? ⟨w.heap.size, 1, none⟩ = some (.int .u32 o.num) := fun W hW => blk_cell (i := 1) HB6.out (drew_ext hW) rfl
              have p2 : ∀ W, Ext w6.drew W → W.cell? ⟨w.heap.size, 2, none⟩ = some (.string o.name) := fun W hW => blk_cell (i := 2) HB6.out (drew_ext hW) rfl
              have p3 : ∀ W, Ext w6.drew W → W.cell? ⟨w.heap.size, 3, none⟩ = some (.int .i64 o.l) := fun W hW => blk_cell (i := 3) HB6.out (drew_ext hW) rfl
              have p4 : ∀ W, Ext w6.drew W → W.cell? ⟨w.heap.size, 4, none⟩ = some (.int .i64 o.c) := fun W hW => blk_cell (i := 4) HB6.out (drew_ext hW) rfl
              have p5 : ∀ W, Ext w6.drew W → W.cell? ⟨w.heap.size, 5, none⟩ = some (.int .i64 o.p) := fun W hW => blk_cell (i := 5) HB6.out (drew_ext hW) rfl
              have p6 : ∀ W, Ext w6.drew W → W.cell? ⟨w.heap.size, 6, none⟩ = some (.slice o.A o.n o.cap) := fun W hW => blk_cell (i := 6) HB6.out (drew_ext hW) rfl
              have hs1 : (rowF w6 196 6 n (cellsL objS objs)).St Ext := rowF_st
              have hs2 : (copL w6 (obOf o)).St Ext := copL_st
              have hs3 : (litL w6 (obOf o)).St Ext := litL_st
              refine Lex.wp_region_ord [0] [1, 2, 3, 4, 5, 6, 7, 8, 9, 10, 11, 12, 13, 14, 15, 16, 17] [18, 19, 20, 21] [(5, rowF w6 196 6 n (cellsL objS objs)), (16, copL w6 (obOf o)), (17, litL w6 (obOf o))] (by kernel_rfl) (by kernel_rfl) (by repeat (first | exact Lex.st_nil | refine Lex.st_cons (by assumption) ?_)) ?_
              simp only [Lex.pick, List.getElem?_cons_succ, List.getElem?_cons_zero, List.map_cons, List.map_nil]
              repeat (refine Lex.preL_cons (by rfl) ?_; apply Exists.intro; refine ⟨fun W => ?_, ?_⟩; (go_simp; try with_reducible rfl); simp only [Act.put, List.setIfInBounds_toArray, List.set_cons_zero, List.set_cons_succ])
              refine Lex.preL_nil ?_
              repeat (first | (refine Lex.lexH_skip (by rfl) ?_; simp only [Act.put, List.setIfInBounds_toArray, List.set_cons_zero, List.set_cons_succ]) | (refine Lex.lexH_still (by rfl) (by rfl) ?_; apply Exists.intro; refine ⟨fun W hW => ?_, ?_⟩; (have hE := hW.1; have hE2 := Base.Ext.trans (Base.Ext.drew (Base.Ext.refl _)) hW.1; clear hW; go_simp; try with_reducible rfl); simp only [Act.put, List.setIfInBounds_toArray, List.set_cons_zero, List.set_cons_succ]))
              refine Lex.lexH_loose (by rfl) (by rfl) (fun W hW => ?_) ?_
              · have hE := drew_ext hW.1
                clear hW
                go_simp
                refine (Clones.cloneObj A n c (cellsL objS objs) _ (by rw [cellsL_length, HL.out]; rfl) (fun h => by have := hA0 h; omega) (fun ad ha j u hu => hE.cell_ (ok_cells (Sh.ok_off H6.out.ok) (by decide) ad ha j u hu)) (cellsL_one_ _ _) (by omega)).mono ?_
                rintro e w8 ⟨he8, A8, c8, rfl, ho8⟩
                exact ⟨_, rfl, ⟨A8, c8, rfl⟩, he8, rowF_mk (ho8.mono fun i _ hi => Nat.le_trans hE.size hi)⟩
              rintro v ⟨A9, c9, rfl⟩
              simp only [Act.put, List.setIfInBounds_toArray, List.set_cons_zero, List.set_cons_succ]
              repeat (first | (refine Lex.lexH_skip (by rfl) ?_; simp only [Act.put, List.setIfInBounds_toArray, List.set_cons_zero, List.set_cons_succ]) | (refine Lex.lexH_still (by rfl) (by rfl) ?_; apply Exists.intro; refine ⟨fun W hW => ?_, ?_⟩; (have hE := hW.1; have hE2 := Base.Ext.trans (Base.Ext.drew (Base.Ext.refl _)) hW.1; clear hW; go_simp; try with_reducible rfl); simp only [Act.put, List.setIfInBounds_toArray, List.set_cons_zero, List.set_cons_succ]))
              refine Lex.lexH_loose (by rfl) (by rfl) (fun W hW => ?_) ?_
              · have hE := drew_ext hW.1
                clear hW
                go_simp
                refine (copied_calls (obOf o) _ (Sh.ok_ext hE _ _ (obOf_ok HO6.out)) HO.out.few HO.out.each).mono ?_
                rintro e w8 ⟨o', rfl, hcp⟩
                refine ⟨_, rfl, ⟨pA o', pC o', ?_⟩, hcp.ext, ⟨o', rfl, hcp.from hE⟩⟩
                rw [← hcp.num, ← hcp.name, ← hcp.plan, ← hcp.len]
              rintro v ⟨A10, c10, rfl⟩
              simp only [Act.put, List.setIfInBounds_toArray, List.set_cons_zero, List.set_cons_succ]
              repeat (first | (refine Lex.lexH_skip (by rfl) ?_; simp only [Act.put, List.setIfInBounds_toArray, List.set_cons_zero, List.set_cons_succ]) | (refine Lex.lexH_still (by rfl) (by rfl) ?_; apply Exists.intro; refine ⟨fun W hW => ?_, ?_⟩; (have hE := hW.1; have hE2 := Base.Ext.trans (Base.Ext.drew (Base.Ext.refl _)) hW.1; clear hW; go_simp; try with_reducible rfl); simp only [Act.put, List.setIfInBounds_toArray, List.set_cons_zero, List.set_cons_succ]))
              refine Lex.lexH_loose (by rfl) (by rfl) (fun W hW => ?_) ?_
              · have hE := drew_ext hW.1
                obtain ⟨o', he', hcp⟩ := Lex.upd_here (hW.2 16 (by kernel_rfl))
                clear hW
                go_simp
                refine ⟨⟨_, rfl⟩, Ext.new _ _, _, o', rfl, hE.size, ?_, hcp.ext_ (Ext.new _ _)⟩
                injection he' with he''
                have e2 : (objC o').toArray = _ := he''.symm
                rw [e2]
                exact at_new _ _
              rintro v ⟨g11, rfl⟩
              simp only [Act.put, List.setIfInBounds_toArray, List.set_cons_zero, List.set_cons_succ]
              repeat (first | (refine Lex.lexH_skip (by rfl) ?_; simp only [Act.put, List.setIfInBounds_toArray, List.set_cons_zero, List.set_cons_succ]) | (refine Lex.lexH_still (by rfl) (by rfl) ?_; apply Exists.intro; refine ⟨fun W hW => ?_, ?_⟩; (have hE := hW.1; have hE2 := Base.Ext.trans (Base.Ext.drew (Base.Ext.refl _)) hW.1; clear hW; go_simp; try with_reducible rfl); simp only [Act.put, List.setIfInBounds_toArray, List.set_cons_zero, List.set_cons_succ]))
              refine Lex.lexH_nil (fun W hW => ?_)
              have hE11 := drew_ext hW.1
              have hrow := (hW.2 5).1.1.2 rfl _ _ rfl
              obtain ⟨g12, o', hg12, hg0, hg11, hcp⟩ := (hW.2 17).2 rfl
              clear hW q4 p1 p2 p3 p4 p5 p6 hs1 hs2 hs3 hA0
              injection hg12 with hg12
              injection hg12 with hg12
              injection hg12 with hg12
              subst hg12
              have hne : k < n → (Value.slice A9 n c9).ownBlock ≠ some g11 := fun hk e => by
                obtain ⟨o0, ho0⟩ : ∃ o0, objs[0]? = some o0 := ⟨_, List.getElem?_eq_getElem (by rw [HL.out]; omega)⟩
                have hc0 : (cellsL objS objs)[0 * objS.size + 0]? = some (.int .u32 (num o0)) := by rw [cellsL_get ho0 (by decide)]; rfl
                obtain ⟨ad, hA, hcell⟩ := own_cell hrow hc0
                subst hA
                have hb : ad.block = g11 := by simpa [Value.ownBlock] using e
                obtain ⟨cur, h1, h2, _⟩ := own_at hrow
                rw [h1, hb] at hcell
                have hc2 : W.cell? ⟨g11, 0, none⟩ = some (.int .u32 (num o')) := blk_cell (i := 0) hg11 (Ext.refl _) rfl
                rw [Splice.add_zero_] at hcell
                have hcell : W.cell? ⟨g11, 0, none⟩ = some (.int .u32 (num o0)) := hcell
                rw [hc2] at hcell
                injection hcell with hcell
                injection hcell with _ hcell
                have := HNUM.out o0 (List.mem_of_getElem? ho0)
                have h3 : num o' = o.num := hcp.num
                omega
              have HNE := Lib.hid hne
              have HROW := Lib.hid hrow
              have HCP := Lib.hid hcp
              have HG11 := Lib.hid hg11
              have HE11 := Lib.hid hE11
              clear hne hrow hcp hg11 hE11
              go_wp2_with fail
              refine (Inserts.insertObj (fun i => w6.heap.size ≤ i) A9 n c9 k g11 (cellsL objS objs) (objC o') W HROW.out hpl HG11.out rfl HNE.out (Sh.cells_one objS o') (cellsL_one_ _ _) (by omega) (fun i hi => Nat.le_trans HE11.out.size hi)).mono ?_
              rintro e w12 ⟨A12, c12, rfl, ho12, hc12⟩
              have he12 : Ext w6 w12 := HE11.out.chg hc12 fun i hi => HROW.out.foot i hi
              have HE12 := Lib.hid he12
              have H12 := Lib.hid (H6.out.ext he12)
              have HB12 := Lib.hid (he12.at_ HB6.out)
              have hcp12 : Copied w6 w12 (obOf o) o' := HCP.out.kind hc12 (fun i hi _ => own_kind HROW.out hi) fun i hi => HROW.out.foot i hi
              have hcut : (cellsL objS objs).take (k * 6) ++ objC o' ++ (cellsL objS objs).drop (k * 6) = cellsL objS (objs.take k ++ [o'] ++ objs.drop k) := by
                rw [cellsL_app, cellsL_app, ← cellsL_take, ← cellsL_drop]
                simp [cellsL, Sh.size, Fs.size, obj_cells]
              rw [hcut] at ho12
              have HO12 := Lib.hid ho12
              have HCP12 := Lib.hid hcp12
              have f4 : w12.frozen? ⟨gt, 4, none⟩ = false := Pack.free_of H12.out.at_ 4
              have hsome : w12.cell? ⟨gt, 4, none⟩ = some (.slice A n c) := blk_cell (i := 4) H12.out.at_ (Ext.refl _) rfl
              have hneq : gt ≠ w.heap.size := fun e => by have := H.out.lt; omega
              clear ho12 he12 hc12 hcut hcp12
              go_wp2_with fail
              try simp only [Lex.onlyN]
              go_upto_region 11 with fail
              have hs13 := set_blk (w := w12) (i := 4) H12.out.at_ (.slice A12 (n + 1) c12)
              have hc13 : Chg (fun i => i = gt) w12 (w12.setCell ⟨gt, 4, none⟩ (.slice A12 (n + 1) c12)) := (Chg.refl (fun i => i = gt) w12).setCell (p := ⟨gt, 4, none⟩) rfl _
              generalize w12.setCell ⟨gt, 4, none⟩ (.slice A12 (n + 1) c12) = w13 at *
              have b1 : w13.cell? ⟨w.heap.size, 1, none⟩ = some (.int .u32 o.num) := blk_cell (i := 1) (hc13.at_ HB12.out (Ne.symm hneq)) (Ext.refl _) rfl
              have t3 : w13.cell? ⟨gt, 3, none⟩ = some (.int .u32 ls) := blk_cell (i := 3) hs13 (Ext.refl _) (by simp)
              have f3 : w13.frozen? ⟨gt, 3, none⟩ = false := Pack.free_of hs13 3
              have HS13 := Lib.hid hs13
              have HC13 := Lib.hid hc13
              clear hs13 hc13 f4 hsome
              go_wp2_with fail
              rw [HQ.out, HC.out]
              have hs14 := set_blk (w := w13) (i := 3) HS13.out (.int .u32 o.num)
              have hc14 : Chg (fun i => i = gt) w12 (w13.setCell ⟨gt, 3, none⟩ (.int .u32 o.num)) := HC13.out.setCell (p := ⟨gt, 3, none⟩) rfl _
              have hok := new_objs (gt := gt) (objs := objs.take k ++ [o'] ++ objs.drop k) H6.out.lt HO12.out (by simp [HL.out]; omega) fun x hx => by
                rcases List.mem_append.1 hx with hx | hx
                · rcases List.mem_append.1 hx with hx | hx
                  · exact objs_ext H12.out.ok (Ext.refl _) x (List.mem_of_mem_take hx)
                  · have hx : x = o' := by simpa using hx
                    subst hx
                    exact HCP12.out.ok (obOf_ok HO6.out) H6.out.lt
                · exact objs_ext H12.out.ok (Ext.refl _) x (List.mem_of_mem_drop hx)
              exact ⟨rfl, ext_chg (HE6.out.trans HE12.out) hc14, ⟨nx, o.num, A12, n + 1, c12, _⟩, TblAt.put hc14 (by simpa using hs14) hok, fun h => absurd rfl h, fun _ => ⟨HNAME.out, HPLAN.out, rfl, rfl, o', HCP12.out.like, by rw [show place objs o.name = k from HPP.out]⟩⟩
end Go.Proofs.Ytipmkddcdnbihaa.Tbl
/- A slot's shard is let be elsewhere: what that is. -/
namespace Go.Proofs.Ytipmkddcdnbihaa.Tbl
open Go.RowKit Base Step Vec Shape Erase
def pl (node gen : Int) : plS.T := (node, gen, ())
/-- An object whose rows are all newer than w. -/
structure Stood (w w' : World) (o : Obj) : Prop where
  n : (Lit.int .u32 (num o)).wf = true
  s : (name o).size ≤ maxLen
  p : ∀ W, planS.ok W (plan o)
  len : (rows o).length = pN o
  prow : New w w' 186 1 (pA o) (pN o) (pC o) (cellsL rowS (rows o))
  each : ∀ r ∈ rows o, RowNew w w' r ∧ (rP r).length = rN r ∧ ∀ x ∈ rP r, ∀ W, plS.ok W x
theorem plan_any {w W : World} {x : planS.T} (h : planS.ok w x) : planS.ok W x := by
  obtain ⟨h1, h2, h3, _⟩ : (Lit.int .i64 x.1).wf = true ∧ (Lit.int .i64 x.2.1).wf = true ∧ (Lit.int .i64 x.2.2.1).wf = true ∧ True := h
  exact ⟨h1, h2, h3, trivial⟩
theorem pl_any {w W : World} {x : plS.T} (h : plS.ok w x) : plS.ok W x := by
  obtain ⟨h1, h2, _⟩ : (Lit.int .i64 x.1).wf = true ∧ (Lit.int .u32 x.2.1).wf = true ∧ True := h
  exact ⟨h1, h2, trivial⟩
theorem Copied.stood {w w' : World} {o o' : Obj} (h : Copied w w' o o') (ho : objS.ok w o) : Stood w w' o' := by
  obtain ⟨h1, h2, h3, h4⟩ := obj_ok ho
  have hpl := (sl_len h4).1
  refine ⟨by rw [h.num]; exact h1, by rw [h.name]; exact h2, fun W => by rw [h.plan]; exact plan_any h3, by rw [h.rlen, h.len]; exact hpl, h.prow, fun r' hr' => ?_⟩
  obtain ⟨i, hi, hir⟩ := List.getElem_of_mem hr'
  obtain ⟨r, hr⟩ : ∃ r, (rows o)[i]? = some r := ⟨_, List.getElem?_eq_getElem (by rw [← h.rlen]; exact hi)⟩
  obtain ⟨⟨ha1, ha2⟩, hn⟩ := h.alike i r r' hr (by rw [List.getElem?_eq_getElem hi, hir])
  have hrok : (Sh.sl plS).ok w (rA r, rN r, rC r, rP r) := sl_each h4 hr
  have hrl := (sl_len hrok).1
  refine ⟨hn, by rw [ha2, ha1]; exact hrl, fun x hx W => ?_⟩
  rw [ha2] at hx
  obtain ⟨j, hj, hjx⟩ := List.getElem_of_mem hx
  have hok : plS.ok w x := sl_each hrok (i := j) (x := x) (by rw [List.getElem?_eq_getElem hj, hjx])
  exact pl_any hok
theorem Stood.ok {w w' : World} {o : Obj} {gt : Nat} (h : Stood w w' o) (hgt : gt < w.heap.size) : objS.ok (erase w' gt) o := by
  have hrows : (Sh.sl rowS).ok (erase w' gt) (pA o, pN o, pC o, rows o) := by
    refine ok_own (W := w') (e := rowS) h.prow (by decide) h.len (fun r hr => ?_) (fun a v hb hc => cell_erase hc (own_not h.prow (by decide) hb) fun e => ?_) (own_max h.prow)
    · obtain ⟨hn, hl, hx⟩ := h.each r hr
      refine ok_own (W := w') (e := plS) hn (by decide) hl (fun x hxm => hx x hxm _) (fun a v hb hc => cell_erase hc (own_not hn (by decide) hb) fun e => ?_) (own_max hn)
      cases hA : r.1 with
      | none => rw [hA] at hb; simp at hb
      | some ad =>
        rw [hA] at hb
        simp at hb
        have hfo : w.heap.size ≤ ad.block := hn.foot ad.block (by show Value.ownBlock (.slice r.1 _ _) = _; rw [hA]; rfl)
        omega
    · cases hA : pA o with
      | none => rw [hA] at hb; simp at hb
      | some ad =>
        rw [hA] at hb
        simp at hb
        have hfo : w.heap.size ≤ ad.block := h.prow.foot ad.block (by rw [hA]; rfl)
        omega
  have hall : (Lit.int .u32 o.1).wf = true ∧ o.2.1.size ≤ maxLen ∧ planS.ok (erase w' gt) o.2.2.1 ∧ (Sh.sl rowS).ok (erase w' gt) (pA o, pN o, pC o, rows o) ∧ True :=
    ⟨h.n, h.s, h.p _, hrows, trivial⟩
  exact hall
theorem Stood.ext {w w' w2 : World} {o : Obj} (h : Stood w w' o) (he : Ext w' w2) : Stood w w2 o := ⟨h.n, h.s, h.p, h.len, h.prow.extNew he, fun r hr => ⟨Own.extNew (h.each r hr).1 he, (h.each r hr).2⟩⟩
/-- Blocks of other types are written. -/
theorem Stood.kind {w w' w2 : World} {o : Obj} {S : Nat → Prop} (h : Stood w w' o) (hc : Chg S w' w2) (hk : ∀ i, S i → i < w'.heap.size → ∃ c e f, w'.heap[i]? = some (.cells c e f) ∧ e ≠ 186 ∧ e ≠ 80) : Stood w w2 o :=
  ⟨h.n, h.s, h.p, h.len, Own.kind h.prow hc fun i hi hlt => by obtain ⟨c, e, f, h1, h2, h3⟩ := hk i hi hlt; exact ⟨c, e, f, h1, Ne.symm h2⟩, fun r hr => ⟨Own.kind (h.each r hr).1 hc fun i hi hlt => by obtain ⟨c, e, f, h1, h2, h3⟩ := hk i hi hlt; exact ⟨c, e, f, h1, Ne.symm h3⟩, (h.each r hr).2⟩⟩
/-- One row of an object says something else. -/
def setRow (o : Obj) (j : Nat) (r : Row) : Obj := mkObj o (pA o) (pN o) (pC o) ((rows o).set j r)
theorem cellsL_set {l : List Row} {j : Nat} {r r' : Row} (h : l[j]? = some r) (hA : rA r' = rA r) (hn : rN r' = rN r) (hc : rC r' = rC r) : cellsL rowS (l.set j r') = cellsL rowS l := by
  apply List.ext_getElem?
  intro k
  rcases Nat.lt_or_ge k l.length with hk | hk
  · obtain ⟨x, hx⟩ : ∃ x, l[k]? = some x := ⟨_, List.getElem?_eq_getElem hk⟩
    by_cases hkj : k = j
    · subst hkj
      rw [h] at hx
      cases hx
      rw [cellsL_one h, cellsL_one (l := l.set k r') (r := r') (by rw [List.getElem?_set]; simp [hk]), hA, hn, hc]
    · rw [cellsL_one hx, cellsL_one (l := l.set j r') (r := x) (by rw [List.getElem?_set_ne (Ne.symm hkj)]; exact hx)]
  · have e1 : (cellsL rowS l).length ≤ k := by rw [cellsL_length]; simp [Sh.size]; omega
    have e2 : (cellsL rowS (l.set j r')).length ≤ k := by rw [cellsL_length]; simp [Sh.size]; omega
    rw [List.getElem?_eq_none e1, List.getElem?_eq_none e2]
/-- Behind a store into one of its rows. -/
theorem Stood.set {w w' w2 : World} {o : Obj} {j : Nat} {r r' : Row} {g : Nat} (h : Stood w w' o) (ha : Apart (rows o)) (hr : (rows o)[j]? = some r) (hA : rA r' = rA r) (hn : rN r' = rN r) (hC : rC r' = rC r) (hg : rA r = some ⟨g, 0, none⟩) (hc : Chg (fun i => i = g) w' w2) (hT : ∃ c f, w'.heap[g]? = some (.cells c 80 f)) (hown : RowNew w w2 r') (hl : (rP r').length = rN r') (hx : ∀ x ∈ rP r', ∀ W, plS.ok W x) : Stood w w2 (setRow o j r') := by
  refine ⟨h.n, h.s, h.p, by show ((rows o).set j r').length = pN o; rw [List.length_set]; exact h.len, ?_, fun q hq => ?_⟩
  · show New w w2 186 1 (pA o) (pN o) (pC o) (cellsL rowS ((rows o).set j r'))
    rw [cellsL_set hr hA hn hC]
    exact Own.kind h.prow hc fun i hi hlt => by
      obtain ⟨c, f, hh⟩ := hT
      subst hi
      exact ⟨c, _, f, hh, by decide⟩
  · have hq : q ∈ (rows o).set j r' := hq
    obtain ⟨i, hi, hiq⟩ := List.getElem_of_mem hq
    have hi2 : i < (rows o).length := by simpa using hi
    by_cases hij : i = j
    · subst hij
      have : q = r' := by rw [← hiq]; simp
      subst this
      exact ⟨hown, hl, hx⟩
    · have hqo : (rows o)[i]? = some q := by
        rw [← hiq, List.getElem?_eq_getElem hi2, List.getElem_set_ne (Ne.symm hij)]
      obtain ⟨h1, h2⟩ := h.each q (List.mem_of_getElem? hqo)
      refine ⟨Own.keep h1 fun k hk => hc.block k ?_ ?_, h2⟩
      · obtain ⟨c, f, hh⟩ := own_kind h1 hk
        exact Pack.lt_of_at hh
      · intro hkg
        have hkg : k = g := hkg
        subst hkg
        cases hA2 : rA q with
        | none => have hk : Value.ownBlock (.slice (rA q) (rN q) (rC q)) = some k := hk; rw [hA2] at hk; simp [Value.ownBlock] at hk
        | some a =>
          have hk : Value.ownBlock (.slice (rA q) (rN q) (rC q)) = some k := hk
          rw [hA2] at hk
          simp [Value.ownBlock] at hk
          rcases Nat.lt_or_ge i j with h3 | h3
          · exact ha i j q r h3 hqo hr a _ hA2 hg hk
          · exact ha j i r q (by omega) hr hqo _ a hg hA2 hk.symm
theorem setRow_cells (o : Obj) (j : Nat) (r : Row) : objC (setRow o j r) = objC o := rfl
def badMove (sl : Nat) (t : Tb) (o : Op) : Prop := numAt t.objs o.num < 0 ∨ o.stripe < 0 ∨ (∀ ob, t.objs[(numAt t.objs o.num).toNat]? = some ob → (pN ob : Int) ≤ o.stripe) ∨ o.slot < 0 ∨ (sl : Int) ≤ o.slot
def rowOf (t : Tb) (o : Op) : List plS.T := match t.objs[(numAt t.objs o.num).toNat]? with
  | some ob => (match (rows ob)[o.stripe.toNat]? with | some r => rP r | none => [])
  | none => []
def toRow (t : Tb) (o : Op) : List plS.T := (rowOf t o).set o.slot.toNat (pl o.node o.gen)
open Classical in
/-- What move answers. -/
noncomputable def moveC (sl nd : Nat) (t : Tb) (o : Op) : Int :=
  if badMove sl t o then 6
  else if ¬ Right sl nd (toRow t o) then 1
  else if ∃ p, (rowOf t o)[o.slot.toNat]? = some p ∧ o.gen ≤ gen p then 28 else 0
structure Moved (o : Op) (ob ob' : Obj) : Prop where
  num : num ob' = num ob
  name : name ob' = name ob
  plan : plan ob' = plan ob
  n : pN ob' = pN ob
  len : (rows ob').length = (rows ob).length
  each : ∀ (i : Nat) (r r' : Row), (rows ob)[i]? = some r → (rows ob')[i]? = some r' → rN r' = rN r ∧ rP r' = if i = o.stripe.toNat then (rP r).set o.slot.toNat (pl o.node o.gen) else rP r
def MoveR (sl nd : Nat) (t : Tb) (o : Op) (code : Int) (t' : Tb) : Prop := (code ≠ 0 → t' = t) ∧ (code = 0 → ∃ (k : Nat) (ob ob' : Obj), numAt t.objs o.num = k ∧ t.objs[k]? = some ob ∧ Right sl nd (toRow t o) ∧ Moved o ob ob' ∧ t'.nx = t.nx ∧ t'.ls = t.ls ∧ t'.objs = t.objs.set k ob')
theorem Copied.moved {w w' : World} {o : Op} {ob ob' : Obj} {r' : Row} (h : Copied w w' ob ob') (hr : (rows ob')[o.stripe.toNat]? = some r') (A : Option Addr) (c : Nat) : Moved o ob (setRow ob' o.stripe.toNat (mkRow A (rN r') c ((rP r').set o.slot.toNat (pl o.node o.gen)))) := by
  refine ⟨h.num, h.name, h.plan, h.len, by show ((rows ob').set _ _).length = _; rw [List.length_set]; exact h.rlen, fun i r q h1 h2 => ?_⟩
  have h2 : ((rows ob').set o.stripe.toNat (mkRow A (rN r') c ((rP r').set o.slot.toNat (pl o.node o.gen))))[i]? = some q := h2
  by_cases hi : i = o.stripe.toNat
  · subst hi
    have hlt := (List.getElem?_eq_some_iff.1 hr).1
    rw [List.getElem?_set] at h2
    simp only [hlt, if_true] at h2
    cases h2
    obtain ⟨⟨ha1, ha2⟩, _⟩ := h.alike _ r r' h1 hr
    simp only [if_true]
    exact ⟨ha1, by show (rP r').set _ _ = _; rw [ha2]⟩
  · rw [List.getElem?_set_ne (Ne.symm hi)] at h2
    obtain ⟨⟨ha1, ha2⟩, _⟩ := h.alike _ r q h1 h2
    simp only [hi, if_false]
    exact ⟨ha1, ha2⟩
theorem cellsL_put {e : Sh} : ∀ {l : List e.T} {i : Nat} {x : e.T}, i < l.length → Splice.putAt (cellsL e l) (i * e.size) (e.cells x) = cellsL e (l.set i x) := by
  intro l i x h
  have h1 : l.set i x = l.take i ++ [x] ++ l.drop (i + 1) := by rw [List.set_eq_take_append_cons_drop]; simp [h]
  unfold Splice.putAt
  rw [h1, cellsL_app, cellsL_app, ← cellsL_take, ← cellsL_drop, e.cells_length, Nat.succ_mul]
  simp [cellsL]
end Go.Proofs.Ytipmkddcdnbihaa.Tbl
/- A slot's shard is let be elsewhere, walked. -/
namespace Go.Proofs.Ytipmkddcdnbihaa.Tbl
open Go.RowKit Base Step Vec Shape Erase
set_option maxRecDepth 100000 in
set_option maxHeartbeats 8000000 in
theorem move_calls (gt sl nd : Nat) (t : Tb) (o : Op) (w : World) (h : TbAt w gt sl nd t) (hn : t.n ≤ 1099511627776) (hnd : nd ≤ 32) (hs : ∀ ob ∈ t.objs, Small ob) (hr : ∀ ob ∈ t.objs, ∀ r ∈ rows ob, rN r = sl) (ho : OpAt w o) :
    Calls Try.prog 163 #[.pointer (some ⟨gt, 0, none⟩), opV o] w (Did w gt sl nd (moveC sl nd t o) fun t' _ => MoveR sl nd t o (moveC sl nd t o) t') := by
  obtain ⟨nx, ls, A, n, c, objs⟩ := t
  have hn : n ≤ 1099511627776 := hn
  obtain ⟨Q, hQ⟩ : ∃ Q, Q = Did w gt sl nd (moveC sl nd ⟨nx, ls, A, n, c, objs⟩ o) fun t' _ => MoveR sl nd ⟨nx, ls, A, n, c, objs⟩ o (moveC sl nd ⟨nx, ls, A, n, c, objs⟩ o) t' := ⟨_, rfl⟩
  have HQ := Lib.hid hQ
  rw [← hQ]
  clear hQ
  have h : TblAt w gt sl nd nx ls A n c objs := h
  have e0 := Lib.hid (Ext.new w (.cells (opC o) 82))
  have hb := at_new w (.cells (opC o) 82)
  have H := Lib.hid h
  have HO := Lib.hid ho
  have HS : Hid (∀ ob ∈ objs, Small ob) := Lib.hid hs
  have HR : Hid (∀ ob ∈ objs, ∀ r ∈ rows ob, rN r = sl) := Lib.hid hr
  clear h ho hs hr
  -- an answer that leaves the table as it was
  have hno : ∀ (code : Int) (W : World), code ≠ 0 → moveC sl nd ⟨nx, ls, A, n, c, objs⟩ o = code → Ext w W → Q (.returned (.int .i64 code)) W := fun code W h0 hc he => by
    rw [HQ.out, hc]
    exact ⟨rfl, Below.chg he, ⟨nx, ls, A, n, c, objs⟩, H.out.ext he, fun _ => rfl, fun k => absurd k h0⟩
  have HNO := Lib.hid hno
  clear hno
  go_enter Try.func163, Try.ntmps163
  go_upto_region 1 with fail
  generalize w.alloc (.cells (opC o) 82) = w1 at *
  have b1 : w1.cell? ⟨w.heap.size, 1, none⟩ = some (.int .u32 o.num) := blk_cell (i := 1) hb (Ext.refl _) rfl
  have HB := Lib.hid hb
  clear hb
  go_wp2_with fail
  refine (number_calls gt sl nd nx ls A n c objs o.num w1 (H.out.ext e0.out) hn).mono ?_
  rintro e w2 ⟨rfl, he2⟩
  have HE2 := Lib.hid (e0.out.trans he2)
  have hb2 := he2.at_ HB.out
  have HB2 := Lib.hid hb2
  have H2 := Lib.hid (H.out.ext HE2.out)
  have hat2 := H2.out.at_
  clear he2 b1
  have b7 : w2.cell? ⟨w.heap.size, 7, none⟩ = some (.int .i64 o.stripe) := blk_cell (i := 7) hb2 (Ext.refl _) rfl
  have b8 : w2.cell? ⟨w.heap.size, 8, none⟩ = some (.int .i64 o.slot) := blk_cell (i := 8) hb2 (Ext.refl _) rfl
  have t0 : w2.cell? ⟨gt, 0, none⟩ = some (.int .i64 sl) := blk_cell (i := 0) hat2 (Ext.refl _) rfl
  have t4 : w2.cell? ⟨gt, 4, none⟩ = some (.slice A n c) := blk_cell (i := 4) hat2 (Ext.refl _) rfl
  clear hb2 hat2
  go_upto_region 2 with fail
  rcases numFrom_spec o.num objs 0 with ⟨hk0, _⟩ | ⟨k, ob, hk0, hob, hobn⟩
  · have hk0 : numAt objs o.num = -1 := hk0
    have hcode : moveC sl nd ⟨nx, ls, A, n, c, objs⟩ o = 6 := by
      unfold moveC
      rw [if_pos]
      exact .inl (by show numAt objs o.num < 0; omega)
    have HC := Lib.hid hcode
    clear hcode
    rw [hk0]
    have hd1 : decide ((-1 : Int) < 0) = true := rfl
    clear hk0
    go_quiet (fail)
    go_wp2_with fail
    exact HNO.out 6 _ (by decide) HC.out (HE2.out.drewN _)
  · have hk0 : numAt objs o.num = (k : Nat) := by rw [← Nat.zero_add k]; exact hk0
    have hln := (sl_len H2.out.ok).1
    have hkn : k < n := by have := (List.getElem?_eq_some_iff.1 hob).1; omega
    obtain ⟨ad, ob', hA, hob', hat, hobk⟩ := obj_at (Sh.ok_off H2.out.ok) hkn
    subst hA
    rw [hob] at hob'
    cases hob'
    have hnc : n ≤ c := (sl_len H2.out.ok).2.1
    have HAT := Lib.hid hat
    obtain ⟨c0, c1, c2, c3, c4, c5⟩ := hat
    have HK := Lib.hid hk0
    have HOB := Lib.hid hob
    have HOBK := Lib.hid hobk
    have hidx : objs[(numAt objs o.num).toNat]? = some ob := by rw [hk0]; exact hob
    have HIDX := Lib.hid hidx
    rw [hk0]
    clear hob hobk hobn hidx hk0 c0 c1 c2 c3 c4
    have hpm : pN ob ≤ 1099511627776 := (HS.out ob (List.mem_of_getElem? HOB.out)).1
    have hd1 : decide (((k : Nat) : Int) < 0) = false := by simp
    by_cases hbad : o.stripe < 0 ∨ (pN ob : Int) ≤ o.stripe ∨ o.slot < 0 ∨ (sl : Int) ≤ o.slot
    · have hcode : moveC sl nd ⟨nx, ls, some ad, n, c, objs⟩ o = 6 := by
        unfold moveC
        rw [if_pos]
        rcases hbad with h | h | h | h
        · exact .inr (.inl h)
        · refine .inr (.inr (.inl fun ob2 h2 => ?_))
          have h2 : objs[(numAt objs o.num).toNat]? = some ob2 := h2
          rw [HIDX.out] at h2
          cases h2
          exact h
        · exact .inr (.inr (.inr (.inl h)))
        · exact .inr (.inr (.inr (.inr h)))
      have HC := Lib.hid hcode
      clear hcode
      by_cases h1 : o.stripe < 0
      · have hd2 : decide (o.stripe < 0) = true := by simp [h1]
        clear hbad h1
        go_quiet (fail)
        go_wp2_with fail
        exact HNO.out 6 _ (by decide) HC.out (HE2.out.drewN _)
      · have hd2 : decide (o.stripe < 0) = false := by simp [h1]
        by_cases h2 : (pN ob : Int) ≤ o.stripe
        · have hd3 : decide ((pN ob : Int) ≤ o.stripe) = true := by simp [h2]
          clear hbad h1 h2
          go_quiet (fail)
          go_wp2_with fail
          exact HNO.out 6 _ (by decide) HC.out (HE2.out.drewN _)
        · have hd3 : decide ((pN ob : Int) ≤ o.stripe) = false := by simp; omega
          by_cases h3 : o.slot < 0
          · have hd4 : decide (o.slot < 0) = true := by simp [h3]
            clear hbad h1 h2 h3
            go_quiet (fail)
            go_wp2_with fail
            exact HNO.out 6 _ (by decide) HC.out (HE2.out.drewN _)
          · have hd4 : decide (o.slot < 0) = false := by simp [h3]
            have hd5 : decide ((sl : Int) ≤ o.slot) = true := by simp; omega
            clear hbad h1 h2 h3
            go_quiet (fail)
            go_wp2_with fail
            exact HNO.out 6 _ (by decide) HC.out (HE2.out.drewN _)
    · have hd2 : decide (o.stripe < 0) = false := by simp; omega
      have hd3 : decide ((pN ob : Int) ≤ o.stripe) = false := by simp; omega
      have hd4 : decide (o.slot < 0) = false := by simp; omega
      have hd5 : decide ((sl : Int) ≤ o.slot) = false := by simp; omega
      have HGOOD := Lib.hid hbad
      clear hbad
      go_quiet (fail)
      have HE3 := Lib.hid (HE2.out.drewN nq)
      have HB3 := Lib.hid ((Ext.drewN (Ext.refl w2) nq).at_ HB2.out)
      have H3 := Lib.hid (H2.out.ext (Ext.drewN (Ext.refl w2) nq))
      have HAT3 := Lib.hid (HAT.out.ext (Ext.drewN (Ext.refl w2) nq))
      have HOBK3 := Lib.hid (Sh.ok_ext (Ext.drewN (Ext.refl w2) nq) _ _ HOBK.out)
      clear hd1 hd2 hd3 hd4 hd5 b7 b8 t0 t4 c5 HAT HOBK H2 HB2
      generalize w2.drewN nq = w3 at *
      obtain ⟨j, hj⟩ : ∃ j : Nat, o.stripe = j := ⟨o.stripe.toNat, by have := HGOOD.out; omega⟩
      obtain ⟨q, hq⟩ : ∃ q : Nat, o.slot = q := ⟨o.slot.toNat, by have := HGOOD.out; omega⟩
      have hjp : j < pN ob := by have := HGOOD.out; omega
      have hqs : q < sl := by have := HGOOD.out; omega
      have HJ := Lib.hid hj
      have HQQ := Lib.hid hq
      clear hj hq
      have hb3 := HB3.out
      unfold opC at hb3
      rw [HJ.out, HQQ.out] at hb3
      have HB3' := Lib.hid hb3
      clear hb3
      obtain ⟨c0, c1, c2, c3, c4, c5⟩ := HAT3.out
      have t4 : w3.cell? ⟨gt, 4, none⟩ = some (.slice (some ad) n c) := blk_cell (i := 4) H3.out.at_ (Ext.refl _) rfl
      have hsm := HS.out ob (List.mem_of_getElem? HOB.out)
      have HSM := Lib.hid hsm
      clear hsm
      go_wp2_with fail
      refine (copied_calls ob w3 HOBK3.out HSM.out.1 HSM.out.2).mono ?_
      rintro e w4 ⟨o', rfl, hcp⟩
      have HCP4 := Lib.hid hcp
      clear hcp c0 c1 c2 c3 c4 c5 t4
      go_upto_region 5 with (refine RowSt.wpList_put 196 _ _ rfl rfl rfl w4.heap.size #[.int .u32 (num o'), .string (name o'), .int .i64 (plan o').1, .int .i64 (plan o').2.1, .int .i64 (plan o').2.2.1, .slice (pA o') (pN o') (pC o')] rfl rfl 196 _ (at_new w4 _) (by kernel_rfl) rfl (by simp [Value.oneCell']) ?_; intro w5 hb5 hc5)
      have hE35 : Ext w3 w5 := (HCP4.out.ext.trans (Ext.new w4 _)).chg hc5 fun i hi => by have := HCP4.out.ext.size; have hi : i = w4.heap.size := hi; omega
      have hcp5 : Copied w3 w5 ob o' := (HCP4.out.ext_ (Ext.new w4 _)).put (at_new w4 _) hc5 HCP4.out.ext.size
      have hbx5 : w.heap.size < w4.heap.size := by have := HCP4.out.ext.size; have := Pack.lt_of_at HB3.out; omega
      have HBX := Lib.hid hbx5
      have hb35 := hE35.at_ HB3'.out
      have HB5 := Lib.hid hb5
      have HE35 := Lib.hid hE35
      have HCP5 := Lib.hid hcp5
      have HOP5 := Lib.hid hb35
      clear hc5 hE35 hcp5 HCP4 hbx5
      generalize w4.heap.size = bx at *
      -- the row
      have hrl := (obj_ok HOBK3.out).2.2.2
      have hrl2 : (rows ob).length = pN ob := (sl_len hrl).1
      obtain ⟨r, hr0⟩ : ∃ r, (rows ob)[j]? = some r := ⟨_, List.getElem?_eq_getElem (by omega)⟩
      obtain ⟨r', hr1⟩ : ∃ r', (rows o')[j]? = some r' := ⟨_, List.getElem?_eq_getElem (by rw [HCP5.out.rlen]; omega)⟩
      obtain ⟨⟨ha1, ha2⟩, hrn⟩ := HCP5.out.alike j r r' hr0 hr1
      have hrsl : rN r = sl := HR.out ob (List.mem_of_getElem? HOB.out) r (List.mem_of_getElem? hr0)
      have hrn1 : rN r' = sl := by rw [ha1, hrsl]
      have hrok : (Sh.sl plS).ok w3 (rA r, rN r, rC r, rP r) := sl_each hrl hr0
      have hrpl : (rP r').length = sl := by rw [ha2, (sl_len hrok).1, hrsl]
      obtain ⟨p, hp⟩ : ∃ p, (rP r')[q]? = some p := ⟨_, List.getElem?_eq_getElem (by omega)⟩
      obtain ⟨adp, hpA, hcell⟩ := own_cell HCP5.out.prow (j := j) (cellsL_one hr1)
      have hpn : pN o' = pN ob := HCP5.out.len
      have hc0 : (cellsL plS (rP r'))[q * plS.size + 0]? = some (.int .i64 (node p)) := by rw [cellsL_get hp (by decide)]; rfl
      have hc1 : (cellsL plS (rP r'))[q * plS.size + 1]? = some (.int .u32 (gen p)) := by rw [cellsL_get hp (by decide)]; rfl
      obtain ⟨a2, hrA, hcell0⟩ := own_cell hrn hc0
      obtain ⟨a2', hrA', hcell1⟩ := own_cell hrn hc1
      rw [hrA] at hrA'
      cases hrA'
      have hrn2 : New w3 w5 80 2 (some a2) sl (rC r') (cellsL plS (rP r')) := by rw [← hrA, ← hrn1]; exact hrn
      obtain ⟨g2, cur2, rfl, hg2, hnc2, hcm2, hcs2, hcx2, hS2, hl2⟩ := Splice.blk_own hrn2
      rw [Splice.add_zero_] at hcell0 hcell1
      have hcell0 : w5.cell? ⟨g2, q * 2, none⟩ = some (.int .i64 (node p)) := by simpa [Sh.size, Fs.size] using hcell0
      have hcell1 : w5.cell? ⟨g2, q * 2 + 1, none⟩ = some (.int .u32 (gen p)) := by simpa [Sh.size, Fs.size] using hcell1
      rw [hpA] at hb5
      have x5 : w5.cell? ⟨bx, 5, none⟩ = some (.slice (some adp) (pN o') (pC o')) := blk_cell (i := 5) hb5 (Ext.refl _) rfl
      rw [hpn] at x5
      rw [hrA, hrn1] at hcell
      have b7 : w5.cell? ⟨w.heap.size, 7, none⟩ = some (.int .i64 (j : Nat)) := blk_cell (i := 7) hb35 (Ext.refl _) rfl
      have b8 : w5.cell? ⟨w.heap.size, 8, none⟩ = some (.int .i64 (q : Nat)) := blk_cell (i := 8) hb35 (Ext.refl _) rfl
      have hji : ((j : Nat) : Int) < ((pN ob : Nat) : Int) := by omega
      have hqi : ((q : Nat) : Int) < ((sl : Nat) : Int) := by omega
      have HR0 := Lib.hid hr0
      have HR1 := Lib.hid hr1
      have HRN2 := Lib.hid hrn2
      have HG2 := Lib.hid hg2
      have HA2 := Lib.hid ha2
      have HRA := Lib.hid hrA
      have HRN1 := Lib.hid hrn1
      have HP := Lib.hid hp
      have HRPL := Lib.hid hrpl
      clear hr0 hr1 hrn hrn2 hg2 ha1 ha2 hrA hrn1 hp hrpl hc0 hc1 hcx2 hl2 hS2 hrok hrl hb5 hb35 hrsl hrl2 hpA hpn
      go_upto_region 7 with fail
      have hE6 := Ext.new w5 (.cells #[.int .i64 (node p), .int .u32 (gen p)] 80)
      have hwp := at_new w5 (.cells #[.int .i64 (node p), .int .u32 (gen p)] 80)
      have hg6 := hE6.at_ HG2.out
      have hop6 := hE6.at_ HOP5.out
      have hE6' := Lib.hid hE6
      have hg2lt : g2 < w5.heap.size := Pack.lt_of_at HG2.out
      have hbplt : w.heap.size < w5.heap.size := Pack.lt_of_at HOP5.out
      clear hcell hcell0 hcell1 x5 b7 b8 hE6
      generalize w5.alloc (.cells #[.int .i64 (node p), .int .u32 (gen p)] 80) = w6 at *
      generalize hwpp : w5.heap.size = wp at *
      have b8 : w6.cell? ⟨w.heap.size, 8, none⟩ = some (.int .i64 (q : Nat)) := blk_cell (i := 8) hop6 (Ext.refl _) rfl
      have b9 : w6.cell? ⟨w.heap.size, 9, none⟩ = some (.int .i64 o.node) := blk_cell (i := 9) hop6 (Ext.refl _) rfl
      have b10 : w6.cell? ⟨w.heap.size, 10, none⟩ = some (.int .u32 o.gen) := blk_cell (i := 10) hop6 (Ext.refl _) rfl
      have HG6 := Lib.hid hg6
      have HOP6 := Lib.hid hop6
      have HWP := Lib.hid hwp
      have hmul : q * 2 + 2 ≤ rC r' * 2 := by have := hnc2; omega
      clear hg6 hop6 hwp
      go_upto_region 8 with (refine Splice.wpList_storeB 80 _ _ rfl rfl rfl g2 (q * 2) #[.int .i64 o.node, .int .u32 o.gen] rfl rfl 80 cur2 HG6.out (by kernel_rfl) (by rw [hcs2]; exact hmul) (by simp [Value.oneCell']) ?_; intro w7 hg7 hc7)
      have hg2w3 : w3.heap.size ≤ g2 := by have := HRN2.out.foot g2 rfl; exact this
      have hE36 := HE35.out.trans hE6'.out
      have hE37 : Ext w3 w7 := hE36.chg hc7 fun i hi => by rw [hi]; exact hg2w3
      have HE37 := Lib.hid hE37
      have hwlt3 : w.heap.size < w3.heap.size := Pack.lt_of_at HB3.out
      have hwp7 := hc7.at_ HWP.out (fun e => by have e : wp = g2 := e; omega)
      have hop7 := hc7.at_ HOP6.out (fun e => by have e : w.heap.size = g2 := e; omega)
      have hown6 : New w3 w6 80 2 (some ⟨g2, 0, none⟩) sl (rC r') (cellsL plS (rP r')) := Own.extNew HRN2.out hE6'.out
      have hsl2 : (cellsL plS (rP r')).length = sl * 2 := by rw [cellsL_length, HRPL.out]; rfl
      have hput : Splice.putAt (cellsL plS (rP r')) (q * 2) [.int .i64 o.node, .int .u32 o.gen] = cellsL plS ((rP r').set q (pl o.node o.gen)) := cellsL_put (e := plS) (x := pl o.node o.gen) (by rw [HRPL.out]; omega)
      have hown7 : New w3 w7 80 2 (some ⟨g2, 0, none⟩) sl (rC r') (cellsL plS ((rP r').set q (pl o.node o.gen))) := by
        have := Splice.own_store (o := q * 2) hown6 HG6.out (by show q * 2 + 2 ≤ sl * 2; omega) hg7
        rwa [hput] at this
      have hplok : ∀ W, plS.ok W (pl o.node o.gen) := fun W => ⟨HO.out.node, HO.out.gen, trivial⟩
      have hst5 := HCP5.out.stood HOBK3.out
      have hst6 := hst5.ext hE6'.out
      have heach : ∀ x ∈ (rP r').set q (pl o.node o.gen), ∀ W, plS.ok W x := fun x hx => by
        rcases List.mem_or_eq_of_mem_set hx with hx | hx
        · exact (hst6.each r' (List.mem_of_getElem? HR1.out)).2.2 x hx
        · rw [hx]; exact hplok
      have hstx : Stood w3 w7 (setRow o' j (mkRow (some ⟨g2, 0, none⟩) sl (rC r') ((rP r').set q (pl o.node o.gen)))) :=
        hst6.set HCP5.out.apart HR1.out HRA.out.symm HRN1.out.symm rfl HRA.out hc7 ⟨_, _, HG6.out⟩ hown7 (by show ((rP r').set q _).length = sl; rw [List.length_set]; exact HRPL.out) heach
      have hrowok : (Sh.sl plS).ok w7 (some ⟨g2, 0, none⟩, sl, rC r', (rP r').set q (pl o.node o.gen)) :=
        ok_own (W := w7) (e := plS) hown7 (by decide) (by rw [List.length_set]; exact HRPL.out) (fun x hx => heach x hx _) (fun a v _ hc => hc) (own_max hown7)
      have hsl40 : sl ≤ 8796093021952 := by
        have := HSM.out.2 r (List.mem_of_getElem? HR0.out)
        rw [HR.out ob (List.mem_of_getElem? HOB.out) r (List.mem_of_getElem? HR0.out)] at this
        exact this
      have hjt : o.stripe.toNat = j := by rw [HJ.out]; rfl
      have hqt : o.slot.toNat = q := by rw [HQQ.out]; rfl
      have hrow : rowOf ⟨nx, ls, some ad, n, c, objs⟩ o = rP r' := by
        unfold rowOf
        dsimp only
        rw [HIDX.out]
        dsimp only
        rw [hjt, HR0.out, HA2.out]
      have hto : toRow ⟨nx, ls, some ad, n, c, objs⟩ o = (rP r').set q (pl o.node o.gen) := by unfold toRow; rw [hrow, hqt]
      have hnbad : ¬ badMove sl ⟨nx, ls, some ad, n, c, objs⟩ o := by
        intro hb
        have hg := HGOOD.out
        rcases hb with h | h | h | h | h
        · have h : numAt objs o.num < 0 := h
          rw [HK.out] at h
          omega
        · exact hg (.inl h)
        · exact hg (.inr (.inl (h ob HIDX.out)))
        · exact hg (.inr (.inr (.inl h)))
        · exact hg (.inr (.inr (.inr h)))
      have HSTX := Lib.hid hstx
      have HROK := Lib.hid hrowok
      have HROW := Lib.hid hrow
      have HTO := Lib.hid hto
      have HNB := Lib.hid hnbad
      have HQT := Lib.hid hqt
      have HJT := Lib.hid hjt
      have HWP7 := Lib.hid hwp7
      have HOP7 := Lib.hid hop7
      have H7 := Lib.hid (H3.out.ext hE37)
      have HX7 := Lib.hid ((hc7.at_ (hE6'.out.at_ HB5.out) (fun e => by have e : bx = g2 := e; have h1 := HB5.out; have h2 := HG2.out; rw [e, h2] at h1; cases h1)))
      clear hg7 hc7 hE36 hE37 hwp7 hop7 hown6 hsl2 hput hown7 hplok hst5 hst6 heach hstx hrowok hjt hqt hrow hto hnbad b8 b9 b10 hwpp
      go_wp2_with fail
      refine (right_calls gt sl nd nx ls (some ad) n c objs (some ⟨g2, 0, none⟩) sl (rC r') ((rP r').set q (pl o.node o.gen)) w7 H7.out HROK.out hnd hsl40).mono ?_
      rintro e w8 ⟨he8, b, rfl, hb8⟩
      have HE38 := Lib.hid (HE37.out.trans he8)
      have HE8 := Lib.hid he8
      have HB8 := Lib.hid hb8
      clear he8 hb8
      cases b with
      | false =>
        have hcode : moveC sl nd ⟨nx, ls, some ad, n, c, objs⟩ o = 1 := by
          unfold moveC
          rw [if_neg HNB.out, if_pos]
          rw [HTO.out]
          exact fun hh => by have := HB8.out.2 hh; cases this
        have HC := Lib.hid hcode
        clear hcode
        go_wp2_with fail
        exact HNO.out 1 _ (by decide) HC.out (HE3.out.trans HE38.out)
      | true =>
        have HRIGHT := Lib.hid (HB8.out.1 rfl)
        have o10 : w8.cell? ⟨w.heap.size, 10, none⟩ = some (.int .u32 o.gen) := blk_cell (i := 10) (HE8.out.at_ HOP7.out) (Ext.refl _) rfl
        have p1 : w8.cell? ⟨wp, 1, none⟩ = some (.int .u32 (gen p)) := blk_cell (i := 1) (HE8.out.at_ HWP7.out) (Ext.refl _) rfl
        by_cases hgen : o.gen ≤ gen p
        · have hcode : moveC sl nd ⟨nx, ls, some ad, n, c, objs⟩ o = 28 := by
            unfold moveC
            rw [if_neg HNB.out, if_neg (by rw [HTO.out]; exact fun k => k HRIGHT.out), if_pos]
            rw [HROW.out, HQT.out]
            exact ⟨p, HP.out, hgen⟩
          have HC := Lib.hid hcode
          clear hcode
          go_wp2_with fail
          exact HNO.out 28 _ (by decide) HC.out (HE3.out.trans HE38.out)
        · have hcode : moveC sl nd ⟨nx, ls, some ad, n, c, objs⟩ o = 0 := by
            unfold moveC
            rw [if_neg HNB.out, if_neg (by rw [HTO.out]; exact fun k => k HRIGHT.out), if_neg]
            rw [HROW.out, HQT.out]
            rintro ⟨p2, hp2, h2⟩
            rw [HP.out] at hp2
            cases hp2
            exact hgen h2
          have HC := Lib.hid hcode
          clear hcode
          have H8 := Lib.hid (H7.out.ext HE8.out)
          have t4 : w8.cell? ⟨gt, 4, none⟩ = some (.slice (some ad) n c) := blk_cell (i := 4) H8.out.at_ (Ext.refl _) rfl
          have hlo := (sl_len H8.out.ok).1
          have HLO := Lib.hid hlo
          clear hlo
          go_wp2_with fail
          refine (Clones.cloneObj (some ad) n c (cellsL objS objs) w8 (by rw [cellsL_length, HLO.out]; rfl) (fun h => by cases h) (fun ad' ha j u hu => ok_cells (Sh.ok_off H8.out.ok) (by decide) ad' ha j u hu) (cellsL_one_ _ _) (by omega)).mono ?_
          rintro e w9 ⟨he9, A9, c9, rfl, ho9⟩
          have H9 := Lib.hid (H8.out.ext he9)
          have f4 : w9.frozen? ⟨gt, 4, none⟩ = false := Pack.free_of H9.out.at_ 4
          have t4' : w9.cell? ⟨gt, 4, none⟩ = some (.slice (some ad) n c) := blk_cell (i := 4) H9.out.at_ (Ext.refl _) rfl
          have HE9 := Lib.hid he9
          have HO9 := Lib.hid ho9
          clear he9 ho9 o10 p1 t4
          go_upto_region 13 with fail
          have hs10 := set_blk (w := w9) (i := 4) H9.out.at_ (.slice A9 n c9)
          have hc10 : Chg (fun i => i = gt) w9 (w9.setCell ⟨gt, 4, none⟩ (.slice A9 n c9)) := (Chg.refl (fun i => i = gt) w9).setCell (p := ⟨gt, 4, none⟩) rfl _
          generalize w9.setCell ⟨gt, 4, none⟩ (.slice A9 n c9) = w10 at *
          have hgt3 : gt < w3.heap.size := H3.out.lt
          have hw8 : w3.heap.size ≤ w8.heap.size := HE38.out.size
          have hx9 := HE9.out.at_ (HE8.out.at_ HX7.out)
          have hbxg : bx ≠ gt := fun e => by
            have h1 := H9.out.at_
            rw [← e, hx9] at h1
            cases h1
          have hx10 := hc10.at_ hx9 hbxg
          have hn0 : 0 < n := by omega
          rcases A9 with _ | ad9
          · have := Splice.own_none HO9.out
            omega
          obtain ⟨g9, cur9, rfl, hg9, hnc9, hcm9, hcs9, hcx9, hS9, hl9⟩ := Splice.blk_own HO9.out
          have hS9 : w8.heap.size ≤ g9 := hS9
          have hg9gt : g9 ≠ gt := by omega
          have hg10 := hc10.at_ hg9 hg9gt
          have hown10 : Own w10 (fun i => w8.heap.size ≤ i) 196 6 (.slice (some ⟨g9, 0, none⟩) n c9) n (cellsL objS objs) := HO9.out.chg hc10 fun i hi e => by have hi : w8.heap.size ≤ i := hi; have e : i = gt := e; omega
          have q4 : ∀ W, Ext w10.drew W → W.cell? ⟨gt, 4, none⟩ = some (.slice (some ⟨g9, 0, none⟩) n c9) := fun W hW => blk_cell (i := 4) hs10 (drew_ext hW) (by simp)
          have x0 : ∀ W, Ext w10.drew W → W.cell? ⟨bx, 0, none⟩ = some (.int .u32 (num o')) := fun W hW => blk_cell (i := 0) hx10 (drew_ext hW) rfl
          have x1 : ∀ W, Ext w10.drew W → W.cell? ⟨bx, 1, none⟩ = some (.string (name o')) := fun W hW => blk_cell (i := 1) hx10 (drew_ext hW) rfl
          have x2 : ∀ W, Ext w10.drew W → W.cell? ⟨bx, 2, none⟩ = some (.int .i64 (plan o').1) := fun W hW => blk_cell (i := 2) hx10 (drew_ext hW) rfl
          have x3 : ∀ W, Ext w10.drew W → W.cell? ⟨bx, 3, none⟩ = some (.int .i64 (plan o').2.1) := fun W hW => blk_cell (i := 3) hx10 (drew_ext hW) rfl
          have x4 : ∀ W, Ext w10.drew W → W.cell? ⟨bx, 4, none⟩ = some (.int .i64 (plan o').2.2.1) := fun W hW => blk_cell (i := 4) hx10 (drew_ext hW) rfl
          have x5 : ∀ W, Ext w10.drew W → W.cell? ⟨bx, 5, none⟩ = some (.slice (pA o') (pN o') (pC o')) := fun W hW => blk_cell (i := 5) hx10 (drew_ext hW) rfl
          have hkn2 : ((k : Nat) : Int) < ((n : Nat) : Int) := by omega
          have HG10 := Lib.hid hg10
          have HOWN10 := Lib.hid hown10
          have HC10 := Lib.hid hc10
          have HS10 := Lib.hid hs10
          have HX10 := Lib.hid hx10
          clear hg10 hown10 hc10 hs10 hx10 hx9 hg9 hcx9 hl9 f4 t4'
          refine Lex.wp_region_u [0, 1, 2, 3, 4, 5, 6] [7] [] (by kernel_rfl) (by kernel_rfl) (by repeat (first | exact Lex.st_nil | refine Lex.st_cons (by first | exact Lex.nums_st | exact Lex.const_st | exact Lex.such_st | exact Lex.row_st | exact Lex.rowE_st | exact Lex.litR_st | assumption) ?_)) ?_; simp only [Lex.pick, List.getElem?_cons_succ, List.getElem?_cons_zero, List.map_cons, List.map_nil]
          repeat (first | (refine Lex.lexU_skip (by rfl) ?_; simp only [Act.put, List.setIfInBounds_toArray, List.set_cons_zero, List.set_cons_succ]) | (refine Lex.lexU_still (by rfl) (by rfl) (by first | exact Base.Ext.refl | exact Lex.Fill.refl) ?_; apply Exists.intro; refine ⟨fun W hW => ?_, ?_⟩; (have hE := Lex.ext_of_cls hW.1; have hE2 := Lex.ext_drew hE; clear hW; go_simp; try with_reducible rfl); simp only [Act.put, List.setIfInBounds_toArray, List.set_cons_zero, List.set_cons_succ]))
          refine Lex.lexU_nil (fun W hW => ?_)
          have hE := Lib.hid (Lex.ext_drew hW.1)
          clear hW q4 x0 x1 x2 x3 x4 x5
          have HGW := Lib.hid (hE.out.at_ HG10.out)
          have hk6 : k * 6 + 6 ≤ c9 * 6 := by omega
          refine Splice.wpList_storeB 196 _ _ rfl rfl rfl g9 (k * 6) #[.int .u32 (num o'), .string (name o'), .int .i64 (plan o').1, .int .i64 (plan o').2.1, .int .i64 (plan o').2.2.1, .slice (pA o') (pN o') (pC o')] rfl rfl 196 cur9 HGW.out (by kernel_rfl) (by rw [hcs9]; exact hk6) (by simp [Value.oneCell']) ?_
          intro w12 hg12 hc12
          have hc10W : Chg (fun i => i = gt) w9 W := chg_ext HC10.out hE.out
          have hc3W : Chg (fun i => i = gt) w3 W := ext_chg (HE38.out.trans HE9.out) hc10W
          have hcW12 : Chg (fun i => i = gt) w3 w12 := hc3W.step hc12 fun i hi e => by have e : i = g9 := e; omega
          have hat12 := hc12.at_ (hE.out.at_ HS10.out) (fun e => hg9gt (Eq.symm e))
          have hownW : Own W (fun i => w8.heap.size ≤ i) 196 6 (.slice (some ⟨g9, 0, none⟩) n c9) n (cellsL objS objs) := HOWN10.out.extNew hE.out
          have hput : Splice.putAt (cellsL objS objs) (k * 6) (objC o') = cellsL objS (objs.set k (setRow o' j (mkRow (some ⟨g2, 0, none⟩) sl (rC r') ((rP r').set q (pl o.node o.gen))))) := cellsL_put (e := objS) (i := k) (x := setRow o' j (mkRow (some ⟨g2, 0, none⟩) sl (rC r') ((rP r').set q (pl o.node o.gen)))) (by rw [HLO.out]; exact hkn)
          have hown12 : Own w12 (fun i => w8.heap.size ≤ i) 196 6 (.slice (some ⟨g9, 0, none⟩) n c9) n (cellsL objS (objs.set k (setRow o' j (mkRow (some ⟨g2, 0, none⟩) sl (rC r') ((rP r').set q (pl o.node o.gen)))))) := by
            have := Splice.own_store (o := k * 6) hownW HGW.out (by show k * 6 + 6 ≤ n * 6; omega) hg12
            rw [← hput]
            exact this
          have hst9 : Stood w3 w9 (setRow o' j (mkRow (some ⟨g2, 0, none⟩) sl (rC r') ((rP r').set q (pl o.node o.gen)))) := (HSTX.out.ext HE8.out).ext HE9.out
          have hst10 := hst9.kind hc10W fun i hi _ => by
            have hi : i = gt := hi
            subst hi
            exact ⟨_, _, _, H9.out.at_, by decide, by decide⟩
          have hst12 := hst10.kind hc12 fun i hi _ => by
            have hi : i = g9 := hi
            subst hi
            exact ⟨_, _, _, HGW.out, by decide, by decide⟩
          have hallok : ∀ x ∈ objs.set k (setRow o' j (mkRow (some ⟨g2, 0, none⟩) sl (rC r') ((rP r').set q (pl o.node o.gen)))), objS.ok (erase w12 gt) x := fun x hx => by
            rcases List.mem_or_eq_of_mem_set hx with hx | hx
            · exact Sh.ok_ext (erase_chg hcW12) _ _ (objs_ext H3.out.ok (Ext.refl _) x hx)
            · rw [hx]
              exact hst12.ok hgt3
          have hok12 := new_objs (w := w8) (gt := gt) (by omega) hown12 (by rw [List.length_set]; exact HLO.out) hallok
          have hdid : Did w gt sl nd 0 (fun t' _ => MoveR sl nd ⟨nx, ls, some ad, n, c, objs⟩ o 0 t') (.returned (.int .i64 0)) w12 :=
            ⟨rfl, ext_chg HE3.out hcW12, ⟨nx, ls, some ⟨g9, 0, none⟩, n, c9, _⟩, ⟨by simpa using hat12, hok12⟩, fun h => absurd rfl h, fun _ => ⟨k, ob, _, HK.out, HOB.out, by rw [HTO.out]; exact HRIGHT.out, by
              have := HCP5.out.moved (o := o) (r' := r') (by rw [HJT.out]; exact HR1.out) (some ⟨g2, 0, none⟩) (rC r')
              rw [HJT.out, HQT.out, HRN1.out] at this
              exact this, rfl, rfl, rfl⟩⟩
          have HDID := Lib.hid hdid
          clear hg12 hc12 hc10W hc3W hcW12 hat12 hownW hput hown12 hst9 hst10 hst12 hallok hok12 hdid
          go_wp2_with fail
          try simp only [Lex.onlyN]
          go_wp2_with fail
          rw [HQ.out, HC.out]
          exact HDID.out
end Go.Proofs.Ytipmkddcdnbihaa.Tbl
/- An operation is done, walked: Apply. -/
namespace Go.Proofs.Ytipmkddcdnbihaa.Tbl
open Go.RowKit Base Step Vec Shape Erase
/-- What an operation answers. -/
noncomputable def applyC (sl nd : Nat) (t : Tb) (o : Op) : Int :=
  if o.kind = 1 then beginC t.nx o
  else if o.kind = 2 then commitC sl nd t o
  else if o.kind = 3 then removeC t o
  else if o.kind = 4 then moveC sl nd t o else 1
/-- What stands behind it. -/
def ApplyR (sl nd : Nat) (t : Tb) (o : Op) (w : World) (t' : Tb) : Prop :=
  if o.kind = 1 then t' = if beginC t.nx o = 0 then { t with nx := t.nx + 1 } else t
  else if o.kind = 2 then CommitR sl nd t o w (commitC sl nd t o) t'
  else if o.kind = 3 then (if there t.objs o.name then removed t (place t.objs o.name) t' else t' = t)
  else if o.kind = 4 then MoveR sl nd t o (moveC sl nd t o) t' else t' = t
theorem Did.from {w w1 : World} {gt sl nd : Nat} {code : Int} {R : Tb → World → Prop} {e : Ending} {w' : World} (h : Did w1 gt sl nd code R e w') (he : Ext w w1) : Did w gt sl nd code R e w' := ⟨h.1, ext_chg he h.2.1, h.2.2⟩
set_option maxRecDepth 100000 in
set_option maxHeartbeats 4000000 in
theorem apply_calls (gt sl nd : Nat) (t : Tb) (o : Op) (w : World) (h : TbAt w gt sl nd t) (hn : t.n ≤ 1099511627776) (hnd : nd ≤ 32) (hs : ∀ ob ∈ t.objs, Small ob) (hr : ∀ ob ∈ t.objs, ∀ r ∈ rows ob, rN r = sl) (ho : OpAt w o) (hx0 : 0 ≤ t.nx) (hx1 : t.nx ≤ 4294967295) :
    Calls Try.prog 91 #[.pointer (some ⟨gt, 0, none⟩), opV o] w (Did w gt sl nd (applyC sl nd t o) fun t' _ => ApplyR sl nd t o w t') := by
  obtain ⟨Q, hQ⟩ : ∃ Q, Q = Did w gt sl nd (applyC sl nd t o) fun t' _ => ApplyR sl nd t o w t' := ⟨_, rfl⟩
  have HQ := Lib.hid hQ
  rw [← hQ]
  clear hQ
  have e0 := Lib.hid (Ext.new w (.cells (opC o) 82))
  have hb := at_new w (.cells (opC o) 82)
  have H := Lib.hid h
  have HO := Lib.hid ho
  have HS := Lib.hid hs
  have HR := Lib.hid hr
  clear h ho hs hr
  go_enter Try.func91, Try.ntmps91
  go_upto_region 1 with fail
  generalize w.alloc (.cells (opC o) 82) = w1 at *
  have b0 : w1.cell? ⟨w.heap.size, 0, none⟩ = some (.int .i64 o.kind) := blk_cell (i := 0) hb (Ext.refl _) rfl
  have HB := Lib.hid hb
  have H1 := Lib.hid (H.out.ext e0.out)
  have HO1 := Lib.hid (HO.out.ext e0.out)
  clear hb
  by_cases h1 : o.kind = 1
  · have hk : (o.kind == 1) = true := by simp [h1]
    have HK := Lib.hid h1
    clear h1
    go_wp2_with (refine wpList_load_rowG rfl 82 _ rfl w.heap.size rfl 82 (opC o) (0, 0) _ HB.out Try.underlying82 rfl (by kernel_rfl) ?_)
    refine (begin_calls gt sl nd t o w1 H1.out hx0 hx1).mono ?_
    rintro e w2 ⟨rfl, hc, ht⟩
    have HC := Lib.hid hc
    have HT := Lib.hid ht
    clear hc ht
    go_wp2_with fail
    rw [HQ.out]
    unfold applyC ApplyR
    rw [if_pos HK.out]
    simp only [if_pos HK.out]
    exact ⟨rfl, ext_chg e0.out HC.out, HT.out⟩
  by_cases h2 : o.kind = 2
  · have hk1 : (o.kind == 1) = false := by simp [h1]
    have hk : (o.kind == 2) = true := by simp [h2]
    have HK1 := Lib.hid h1
    have HK := Lib.hid h2
    clear h1 h2
    go_wp2_with (refine wpList_load_rowG rfl 82 _ rfl w.heap.size rfl 82 (opC o) (0, 0) _ HB.out Try.underlying82 rfl (by kernel_rfl) ?_)
    refine (commit_calls gt sl nd t o w1 H1.out hn hnd HO1.out).mono ?_
    rintro e w2 ⟨rfl, hc, ht⟩
    have HC := Lib.hid hc
    have HT := Lib.hid ht
    clear hc ht
    go_wp2_with fail
    rw [HQ.out]
    unfold applyC ApplyR
    simp only [if_neg HK1.out, if_pos HK.out]
    exact ⟨rfl, ext_chg e0.out HC.out, HT.out⟩
  by_cases h3 : o.kind = 3
  · have hk1 : (o.kind == 1) = false := by simp [h1]
    have hk2 : (o.kind == 2) = false := by simp [h2]
    have hk : (o.kind == 3) = true := by simp [h3]
    have HK1 := Lib.hid h1
    have HK2 := Lib.hid h2
    have HK := Lib.hid h3
    clear h1 h2 h3
    go_wp2_with (refine wpList_load_rowG rfl 82 _ rfl w.heap.size rfl 82 (opC o) (0, 0) _ HB.out Try.underlying82 rfl (by kernel_rfl) ?_)
    refine (remove_calls gt sl nd t o w1 H1.out hn).mono ?_
    rintro e w2 ⟨rfl, hc, ht⟩
    have HC := Lib.hid hc
    have HT := Lib.hid ht
    clear hc ht
    go_wp2_with fail
    rw [HQ.out]
    unfold applyC ApplyR
    simp only [if_neg HK1.out, if_neg HK2.out, if_pos HK.out]
    exact ⟨rfl, ext_chg e0.out HC.out, HT.out⟩
  by_cases h4 : o.kind = 4
  · have hk1 : (o.kind == 1) = false := by simp [h1]
    have hk2 : (o.kind == 2) = false := by simp [h2]
    have hk3 : (o.kind == 3) = false := by simp [h3]
    have hk : (o.kind == 4) = true := by simp [h4]
    have HK1 := Lib.hid h1
    have HK2 := Lib.hid h2
    have HK3 := Lib.hid h3
    have HK := Lib.hid h4
    clear h1 h2 h3 h4
    go_wp2_with (refine wpList_load_rowG rfl 82 _ rfl w.heap.size rfl 82 (opC o) (0, 0) _ HB.out Try.underlying82 rfl (by kernel_rfl) ?_)
    refine (move_calls gt sl nd t o w1 H1.out hn hnd HS.out HR.out HO1.out).mono ?_
    rintro e w2 ⟨rfl, hc, ht⟩
    have HC := Lib.hid hc
    have HT := Lib.hid ht
    clear hc ht
    go_wp2_with fail
    rw [HQ.out]
    unfold applyC ApplyR
    simp only [if_neg HK1.out, if_neg HK2.out, if_neg HK3.out, if_pos HK.out]
    exact ⟨rfl, ext_chg e0.out HC.out, HT.out⟩
  · have hk1 : (o.kind == 1) = false := by simp [h1]
    have hk2 : (o.kind == 2) = false := by simp [h2]
    have hk3 : (o.kind == 3) = false := by simp [h3]
    have hk4 : (o.kind == 4) = false := by simp [h4]
    have HK1 := Lib.hid h1
    have HK2 := Lib.hid h2
    have HK3 := Lib.hid h3
    have HK := Lib.hid h4
    clear h1 h2 h3 h4
    go_wp2_with fail
    rw [HQ.out]
    unfold applyC ApplyR
    simp only [if_neg HK1.out, if_neg HK2.out, if_neg HK3.out, if_neg HK.out]
    exact ⟨rfl, Below.chg e0.out, t, H1.out, rfl⟩
end Go.Proofs.Ytipmkddcdnbihaa.Tbl
/- The law compares an object of the program's with the document's: alike, it says yes. -/
namespace Go.Proofs.Ytipmkddcdnbihaa.Tbl
open Go.RowKit Base Step Vec Shape Erase
set_option maxRecDepth 100000 in
theorem next_calls (gt sl nd : Nat) (t : Tb) (w : World) (h : TbAt w gt sl nd t) :
    Calls Try.prog 85 #[.pointer (some ⟨gt, 0, none⟩)] w fun e w' => e = .returned (.int .u32 t.nx) ∧ w = w' := by
  have c2 : w.cell? ⟨gt, 2, none⟩ = some (.int .u32 t.nx) := blk_cell (i := 2) h.at_ (Ext.refl _) rfl
  clear h
  go_enter Try.func85, Try.ntmps85
  go_wp2_with fail
  go_ret
  exact ⟨rfl, rfl⟩
end Go.Proofs.Ytipmkddcdnbihaa.Tbl
/- The law's operations, made the program's: places. -/
namespace Go.Proofs.Ytipmkddcdnbihaa.Tbl
open Go.RowKit Base Step Vec Shape Erase
/-- A literal of one place. -/
def plcL (w0 : World) (p : plS.T) : Lex.Loose := ⟨fun v => ∃ g, v = .slice (some ⟨g, 0, none⟩) 1 1, fun v W => ∀ g, v = .slice (some ⟨g, 0, none⟩) 1 1 → W.heap[g]? = some (.cells #[.int .i64 (node p), .int .u32 (gen p)] 80 (0, 0))⟩
theorem plcL_st {w0 : World} {p : plS.T} : (plcL w0 p).St Ext := fun _ _ _ h he g e => he.at_ (h g e)
theorem infoPlc : (Try.prog.info? 80).map (fun i => (i.zero, i.size, i.bytes)) = some (some (.agg #[.int .i64 0, .int .u32 0]), 2, 16) := by kernel_rfl
theorem infoRw : (Try.prog.info? 186).map (fun i => (i.zero, i.size, i.bytes)) = some (some (.slice none 0 0), 1, 24) := by kernel_rfl
/-- Rows like others, in new blocks. -/
structure Made (w wr : World) (l done : List Row) (k : Nat) (O : Option Addr) (oc : Nat) : Prop where
  len : done.length = k
  prow : New w wr 186 1 O k oc (cellsL rowS done)
  alike : ∀ (i : Nat) (r r' : Row), l[i]? = some r → done[i]? = some r' → Alike r r' ∧ RowNew w wr r'
  ext : Ext w wr
theorem Made.extNew {w wr w2 : World} {l done : List Row} {k oc : Nat} {O : Option Addr} (h : Made w wr l done k O oc) (he : Ext wr w2) : Made w w2 l done k O oc := ⟨h.len, h.prow.extNew he, fun i r r' h1 h2 => ⟨(h.alike i r r' h1 h2).1, Own.extNew (h.alike i r r' h1 h2).2 he⟩, h.ext.trans he⟩
end Go.Proofs.Ytipmkddcdnbihaa.Tbl
/- The law's operations, made the program's: to. Rows told apart. New tables. -/
namespace Go.Proofs.Ytipmkddcdnbihaa.Tbl
open Go.RowKit Base Step Vec Shape Erase
theorem Made.ok {w w' : World} {A A' : Option Addr} {n c oc : Nat} {l l' : List Row} (h : Made w w' l l' n A' oc) (ho : (Sh.sl rowS).ok w (A, n, c, l)) : (Sh.sl rowS).ok w' (A', n, oc, l') := by
  have hl := (sl_len ho).1
  refine ok_own (W := w') (e := rowS) h.prow (by decide) h.len (fun r' hr' => ?_) (fun a v _ hc => hc) (own_max h.prow)
  obtain ⟨i, hi, hir⟩ := List.getElem_of_mem hr'
  have hi2 : i < l.length := by rw [hl, ← h.len]; exact hi
  obtain ⟨r, hr⟩ : ∃ r, l[i]? = some r := ⟨_, List.getElem?_eq_getElem hi2⟩
  obtain ⟨⟨ha1, ha2⟩, hn⟩ := h.alike i r r' hr (by rw [List.getElem?_eq_getElem hi, hir])
  have hrok : (Sh.sl plS).ok w (rA r, rN r, rC r, rP r) := sl_each ho hr
  have hrl := (sl_len hrok).1
  refine ok_own (W := w') (e := plS) hn (by decide) (by show (rP r').length = rN r'; rw [ha2, ha1]; exact hrl) (fun x hx => ?_) (fun a v _ hc => hc) (own_max hn)
  have hx : x ∈ rP r' := hx
  rw [ha2] at hx
  obtain ⟨j, hj, hjx⟩ := List.getElem_of_mem hx
  have hok : plS.ok w x := sl_each hrok (i := j) (x := x) (by rw [List.getElem?_eq_getElem hj, hjx])
  exact pl_any hok
/-- The rows that places makes. -/
def madeL (w0 : World) (l : List Row) (n : Nat) : Lex.Loose := ⟨fun v => ∃ A c, v = .slice A n c, fun v W => ∀ A c, v = .slice A n c → ∃ l', Made w0 W l l' n A c⟩
theorem madeL_st {w0 : World} {l : List Row} {n : Nat} : (madeL w0 l n).St Ext := fun _ _ _ h he A c e => by
  obtain ⟨l', hm⟩ := h A c e
  exact ⟨l', hm.extNew he⟩
theorem Made.from {w0 w w' : World} {l l' : List Row} {n c : Nat} {A : Option Addr} (h : Made w w' l l' n A c) (he : Ext w0 w) : Made w0 w' l l' n A c :=
  ⟨h.len, h.prow.mono fun i _ k => Nat.le_trans he.size k, fun i r r' h1 h2 => ⟨(h.alike i r r' h1 h2).1, Own.mono (h.alike i r r' h1 h2).2 fun i _ k => Nat.le_trans he.size k⟩, he.trans h.ext⟩
theorem Made.kind {w w' w2 : World} {l l' : List Row} {n c : Nat} {A : Option Addr} {S : Nat → Prop} (h : Made w w' l l' n A c) (hc : Chg S w' w2) (hk : ∀ i, S i → i < w'.heap.size → ∃ c e f, w'.heap[i]? = some (.cells c e f) ∧ e ≠ 186 ∧ e ≠ 80) (hS : ∀ i, S i → w.heap.size ≤ i) : Made w w2 l l' n A c :=
  ⟨h.len, Own.kind h.prow hc fun i hi hlt => by obtain ⟨c, e, f, h1, h2, h3⟩ := hk i hi hlt; exact ⟨c, e, f, h1, Ne.symm h2⟩, fun i r r' h1 h2 => ⟨(h.alike i r r' h1 h2).1, Own.kind (h.alike i r r' h1 h2).2 hc fun i hi hlt => by obtain ⟨c, e, f, h1, h2, h3⟩ := hk i hi hlt; exact ⟨c, e, f, h1, Ne.symm h3⟩⟩, h.ext.chg hc hS⟩
/-- An operation with other rows. -/
def withRows (o : Op) (A : Option Addr) (c : Nat) (l : List Row) : Op := { o with A := A, cap := c, rows := l }
theorem withRows_ok {w w' : World} {o : Op} {A : Option Addr} {c : Nat} {l : List Row} (h : OpAt w o) (hm : Made w w' o.rows l o.n A c) : OpAt w' (withRows o A c l) :=
  ⟨h.num, h.name, h.l, h.c, h.p, hm.ok h.rows, h.few, fun r hr => by
    have hl := (sl_len h.rows).1
    have hr : r ∈ l := hr
    obtain ⟨i, hi, hir⟩ := List.getElem_of_mem hr
    obtain ⟨r0, hr0⟩ : ∃ r0, o.rows[i]? = some r0 := ⟨_, List.getElem?_eq_getElem (by rw [hl, ← hm.len]; exact hi)⟩
    obtain ⟨⟨ha1, _⟩, _⟩ := hm.alike i r0 r hr0 (by rw [List.getElem?_eq_getElem hi, hir])
    rw [ha1]
    exact h.each r0 (List.mem_of_getElem? hr0), h.gen, h.node⟩
end Go.Proofs.Ytipmkddcdnbihaa.Tbl
/- Rows told apart. New tables. -/
namespace Go.Proofs.Ytipmkddcdnbihaa.Tbl
open Go.RowKit Base Step Vec Shape Erase
theorem nodup_ne {l : List plS.T} (h : (l.map node).Nodup) {i j : Nat} {p q : plS.T} (hi : l[i]? = some p) (hj : l[j]? = some q) (hij : j < i) : node p ≠ node q := fun e => by
  have h1 := List.pairwise_iff_getElem.1 h
  have hi1 := (List.getElem?_eq_some_iff.1 hi).1
  have hj1 := (List.getElem?_eq_some_iff.1 hj).1
  have h2 := h1 j i (by simpa using hj1) (by simpa using hi1) hij
  rw [List.getElem_map, List.getElem_map] at h2
  rw [List.getElem?_eq_getElem hi1] at hi
  rw [List.getElem?_eq_getElem hj1] at hj
  cases hi
  cases hj
  exact h2 e.symm
set_option maxRecDepth 100000 in
theorem new_calls (sl nd : Nat) (w : World) (h1 : 1 ≤ sl) (h2 : sl ≤ 24) (h3 : 1 ≤ nd) (h4 : nd ≤ 32) :
    Calls Try.prog 86 #[.int .i64 sl, .int .i64 nd] w fun e w' => e = .returned (.tuple #[.pointer (some ⟨w.heap.size, 0, none⟩), .int .i64 0]) ∧ Ext w w' ∧ TblAt w' w.heap.size sl nd 1 0 none 0 0 [] := by
  have hd1 : decide ((sl : Int) < 1) = false := by simp; omega
  have hd2 : decide ((24 : Int) < sl) = false := by simp; omega
  have hd3 : decide ((nd : Int) < 1) = false := by simp; omega
  have hd4 : decide ((32 : Int) < nd) = false := by simp; omega
  go_enter Try.func86, Try.ntmps86
  go_wp2_with fail
  go_ret2
  exact ⟨rfl, Ext.new _ _, at_new _ _, rfl, Nat.le_refl _, by decide, fun _ => rfl, fun i x hx => by cases hx⟩
end Go.Proofs.Ytipmkddcdnbihaa.Tbl
/- Go data of whatever shape, opened, with what its parts weigh at most. No program in sight. -/
namespace Go.Proofs.Ytipmkddcdnbihaa.Shape
open Go.RowKit Base
mutual
/-- Each slice and each text is within the row's reach. -/
def Sh.small (P : Program) : (s : Sh) → TypeId → s.T → Prop
  | .int _, _, _ => True
  | .bool, _, _ => True
  | .str, _, x => ByteArray.size x ≤ reachBytes
  | .sl e, t, d => ∀ te, P.underlying t = some (.slice te) → d.2.1 * P.bytesOf te ≤ reachBytes ∧ ∀ x ∈ d.2.2.2, e.small P te x
  | .st fs, t, d => ∀ a, P.underlying t = some (.struct a) → fs.small P a.toList d
def Fs.small (P : Program) : (fs : Fs) → List Field → fs.T → Prop
  | .nil, _, _ => True
  | .cons _ _, [], _ => True
  | .cons s fs, f :: l, d => s.small P f.type d.1 ∧ fs.small P l d.2
end
theorem weights_mem_all {H : Type} {P : Program} {e : TypeId} : ∀ {l : List (DataW H)} {d : DataW H}, d ∈ l → ∀ n ∈ d.weights P e, n ∈ DataW.weightsAll P e l
  | x :: l, d, h, n, hn => by
    simp only [DataW.weightsAll, List.mem_append]
    rcases List.mem_cons.1 h with rfl | h
    · exact .inl hn
    · exact .inr (weights_mem_all h n hn)
section
variable {H : Type} {enc : TypeId × Value → H} {P : Program} {w : World} {base : Nat} {spare : Nat → Bool} {held : Bool}
mutual
theorem Sh.opensW : ∀ (s : Sh) (t : TypeId) (fuel : Nat) (cs : List Value) (x : DataW H × List MemPlace), s.fits P t = true → DataW.trod enc P w base spare held fuel t cs = some x → (∀ n ∈ x.1.weights P t, n ≤ reachBytes) → ∃ d : s.T, cs = s.cells d ∧ s.ok w d ∧ s.small P t d
  | .int k, t, fuel, cs, x, hf, h, _ => by
    obtain ⟨d, h1, h2⟩ := Sh.opens (.int k) t fuel cs x hf h
    exact ⟨d, h1, h2, trivial⟩
  | .bool, t, fuel, cs, x, hf, h, _ => by
    obtain ⟨d, h1, h2⟩ := Sh.opens .bool t fuel cs x hf h
    exact ⟨d, h1, h2, trivial⟩
  | .str, t, fuel, cs, x, hf, h, hw => by
    unfold Sh.fits at hf
    split at hf
    · rename_i hu
      obtain ⟨b, rfl, rfl, hb⟩ := DataW.trod_string hu h
      refine ⟨b, rfl, hb, ?_⟩
      have := hw b.data.toList.length (by simp [DataW.weights])
      rw [Array.length_toList] at this
      exact this
    · cases hf
  | .sl e, t, fuel, cs, x, hf, h, hw => by
    unfold Sh.fits at hf
    split at hf
    · rename_i te hu
      simp only [Bool.and_eq_true, decide_eq_true_eq] at hf
      rcases DataW.trod_slice hu h with ⟨rfl, _⟩ | ⟨a, len, cap, elems, rest, n, _, rfl, rfl, _, hl, hm, hlen, hel, _, _⟩
      · exact ⟨(none, 0, 0, []), rfl, by simp [Sh.ok], fun te' _ => ⟨by simp, fun x hx => by cases hx⟩⟩
      · simp only [DataW.weights, hu] at hw
        obtain ⟨l, hl1, hl2⟩ := choose_list (α := e.T) (p := fun i x => e.ok w x ∧ (∀ j u, (e.cells x)[j]? = some u → w.cell? (a.add (i * e.size + j)) = some u) ∧ e.small P te x) len fun i hi => by
          have h1 := hel i hi
          rw [List.getElem?_eq_getElem (by omega), Option.bind_eq_some_iff] at h1
          obtain ⟨cs', h2, h3⟩ := h1
          obtain ⟨d, h4, h5, h7⟩ := Sh.opensW e te n cs' _ hf.1 h3 fun m hm => hw m (List.mem_cons_of_mem _ (List.mem_append_left _ (weights_mem_all (List.mem_map.2 ⟨_, List.getElem_mem (by omega), rfl⟩) m hm)))
          refine ⟨d, h5, fun j u hu => ?_, h7⟩
          have h6 := cells_get h2 j u (by rw [h4]; exact hu)
          rw [hf.2, add_of_add] at h6
          exact h6
        refine ⟨(some a, len, cap, l), rfl, ?_, ?_⟩
        · exact ⟨hl1, hl, hm, fun h => (by cases h), fun i x hx => ⟨(hl2 i x hx).1, a, rfl, (hl2 i x hx).2.1⟩⟩
        · intro te' hu'
          rw [hu] at hu'
          cases hu'
          refine ⟨?_, fun x hx => ?_⟩
          · have h1 := hw _ List.mem_cons_self
            simp only [List.length_map, hlen] at h1
            exact Nat.le_trans (Nat.mul_le_mul_right _ (Nat.le_add_right _ _)) h1
          · have hx : x ∈ l := hx
            obtain ⟨i, hi, hix⟩ := List.getElem_of_mem hx
            exact (hl2 i x (by rw [List.getElem?_eq_getElem hi, hix])).2.2
    · cases hf
  | .st fs, t, fuel, cs, x, hf, h, hw => by
    unfold Sh.fits at hf
    split at hf
    · rename_i a hu
      simp only [Bool.and_eq_true, decide_eq_true_eq] at hf
      obtain ⟨xs, n, _, rfl, h1, h2, h3⟩ := DataW.trod_struct hu h
      simp only [DataW.weights, hu] at hw
      obtain ⟨d, h4, h5, h7⟩ := Fs.opensW fs a.toList 0 n cs hf.1 (fun f hm => by
        obtain ⟨i, hi, he⟩ := List.mem_iff_getElem.1 hm
        have h6 := h3 i f (by rw [← Array.getElem?_toList, List.getElem?_eq_getElem hi, he])
        have hix : i < xs.length := by rw [h2]; simpa using hi
        rw [List.getElem?_eq_getElem hix] at h6
        exact ⟨_, h6, fun m hm => hw m (DataW.weights_mem_each (j := i) (t := f.type) (by simp only [List.getElem?_map, List.getElem?_eq_getElem hi, he]; rfl) (by rw [List.getElem?_map, List.getElem?_eq_getElem hix]; rfl) m hm)⟩) (by omega)
      refine ⟨d, ?_, h5, ?_⟩
      · rw [List.drop_zero, List.take_of_length_le (by omega)] at h4
        exact h4
      · intro a' hu'
        rw [hu] at hu'
        cases hu'
        exact h7
    · cases hf
theorem Fs.opensW : ∀ (fs : Fs) (l : List Field) (off : Nat) (fuel : Nat) (cs : List Value), fs.fits P l off = true → (∀ f ∈ l, ∃ x, DataW.trod enc P w base spare held fuel f.type ((cs.drop f.offset).take (P.cellsOf f.type)) = some x ∧ ∀ n ∈ x.1.weights P f.type, n ≤ reachBytes) → off + fs.size ≤ cs.length →
    ∃ d : fs.T, (cs.drop off).take fs.size = fs.cells d ∧ fs.ok w d ∧ fs.small P l d
  | .nil, _, _, _, _, _, _, _ => ⟨(), by simp [Fs.size, Fs.cells], trivial, trivial⟩
  | .cons s fs, l, off, fuel, cs, hf, h, hl => by
    unfold Fs.fits at hf
    cases l with
    | nil => cases hf
    | cons f l =>
      simp only [Bool.and_eq_true, decide_eq_true_eq] at hf
      obtain ⟨⟨⟨h1, h2⟩, h3⟩, h4⟩ := hf
      obtain ⟨x, hx, hwx⟩ := h f List.mem_cons_self
      rw [h1, h3] at hx
      obtain ⟨d1, h5, h6, h9⟩ := Sh.opensW s f.type fuel _ x h2 hx hwx
      unfold Fs.size at hl
      obtain ⟨d2, h7, h8, h10⟩ := Fs.opensW fs l (off + s.size) fuel cs h4 (fun f hm => h f (List.mem_cons_of_mem _ hm)) (by omega)
      refine ⟨(d1, d2), ?_, ⟨h6, h8⟩, ⟨h9, h10⟩⟩
      show (cs.drop off).take (s.size + fs.size) = s.cells d1 ++ fs.cells d2
      rw [← h5, ← h7, List.take_add, List.drop_drop]
end
end
/-- A slice that came in, opened, within the row's reach. -/
theorem slW_of_trod {H : Type} {enc : TypeId × Value → H} {P : Program} {W : World} {base : Nat} {spare : Nat → Bool} {held : Bool} (s : Sh) {t : TypeId} {a : Option Addr} {len cap : Nat} {d : DataW H} {ps : List MemPlace} {ts : List TypeId} {ds : List (DataW H)} {j : Nat}
    (hsz : (DataW.weightsEach P ts ds).all (· ≤ reachBytes) = true) (ht : ts[j]? = some t) (hd : ds[j]? = some d) (hf : (Sh.sl s).fits P t = true)
    (h : DataW.Trod enc P W base spare held t (.slice a len cap) d ps) : ∃ l : List s.T, (Sh.sl s).ok W (a, len, cap, l) ∧ (Sh.sl s).small P t (a, len, cap, l) := by
  obtain ⟨fuel, hf'⟩ := h
  obtain ⟨⟨a', len', cap', l⟩, h1, h2, h4⟩ := Sh.opensW (.sl s) t fuel _ _ hf hf' fun n hn => by
    have := List.all_eq_true.1 hsz _ (DataW.weights_mem_each ht hd n hn)
    simpa using this
  have h3 : ([.slice a len cap] : List Value) = [.slice a' len' cap'] := h1
  simp at h3
  obtain ⟨rfl, rfl, rfl⟩ := h3
  exact ⟨l, h2, h4⟩
end Go.Proofs.Ytipmkddcdnbihaa.Shape
/- The law's operations: what is not too much. -/
namespace Go.Proofs.Ytipmkddcdnbihaa.Tbl
open Go.RowKit Base Step Vec Shape Erase
/-- An operation out of its data. -/
def opOf (d : opS.T) : Op := ⟨d.1, d.2.1, d.2.2.1, d.2.2.2.1.1, d.2.2.2.1.2.1, d.2.2.2.1.2.2.1, d.2.2.2.2.1.1, d.2.2.2.2.1.2.1, d.2.2.2.2.1.2.2.1, d.2.2.2.2.1.2.2.2, d.2.2.2.2.2.1, d.2.2.2.2.2.2.1, d.2.2.2.2.2.2.2.1.1, d.2.2.2.2.2.2.2.1.2.1⟩
structure OpCell (w : World) (ad : Addr) (i : Nat) (o : Op) : Prop where
  c0 : w.cell? (ad.add (i * 11)) = some (.int .i64 o.kind)
  c1 : w.cell? ⟨(ad.add (i * 11)).block, (ad.add (i * 11)).off + 1, none⟩ = some (.int .u32 o.num)
  c2 : w.cell? ⟨(ad.add (i * 11)).block, (ad.add (i * 11)).off + 2, none⟩ = some (.string o.name)
  c3 : w.cell? ⟨(ad.add (i * 11)).block, (ad.add (i * 11)).off + 3, none⟩ = some (.int .i64 o.l)
  c4 : w.cell? ⟨(ad.add (i * 11)).block, (ad.add (i * 11)).off + 4, none⟩ = some (.int .i64 o.c)
  c5 : w.cell? ⟨(ad.add (i * 11)).block, (ad.add (i * 11)).off + 5, none⟩ = some (.int .i64 o.p)
  c6 : w.cell? ⟨(ad.add (i * 11)).block, (ad.add (i * 11)).off + 6, none⟩ = some (.slice o.A o.n o.cap)
  c7 : w.cell? ⟨(ad.add (i * 11)).block, (ad.add (i * 11)).off + 7, none⟩ = some (.int .i64 o.stripe)
  c8 : w.cell? ⟨(ad.add (i * 11)).block, (ad.add (i * 11)).off + 8, none⟩ = some (.int .i64 o.slot)
  c9 : w.cell? ⟨(ad.add (i * 11)).block, (ad.add (i * 11)).off + 9, none⟩ = some (.int .i64 o.node)
  c10 : w.cell? ⟨(ad.add (i * 11)).block, (ad.add (i * 11)).off + 10, none⟩ = some (.int .u32 o.gen)
theorem OpCell.ext {w w' : World} {ad : Addr} {i : Nat} {o : Op} (h : OpCell w ad i o) (he : Ext w w') : OpCell w' ad i o :=
  ⟨he.cell_ h.c0, he.cell_ h.c1, he.cell_ h.c2, he.cell_ h.c3, he.cell_ h.c4, he.cell_ h.c5, he.cell_ h.c6, he.cell_ h.c7, he.cell_ h.c8, he.cell_ h.c9, he.cell_ h.c10⟩
theorem op_at {w : World} {A : Option Addr} {n c : Nat} {l : List opS.T} (h : (Sh.sl opS).ok w (A, n, c, l)) {i : Nat} (hi : i < n) : ∃ ad d, A = some ad ∧ l[i]? = some d ∧ OpCell w ad i (opOf d) ∧ opS.ok w d := by
  obtain ⟨h1, h2, h3, h4, h5⟩ : l.length = n ∧ n ≤ c ∧ c ≤ maxLen ∧ (A = none → c = 0) ∧ ∀ (i : Nat) (x : opS.T), l[i]? = some x → opS.ok w x ∧ ∃ ad, A = some ad ∧ ∀ (j : Nat) u, (opS.cells x)[j]? = some u → w.cell? (ad.add (i * opS.size + j)) = some u := h
  obtain ⟨d, hd⟩ : ∃ d, l[i]? = some d := ⟨_, List.getElem?_eq_getElem (by omega)⟩
  obtain ⟨hok, ad, rfl, hc⟩ := h5 i d hd
  have hsz : opS.size = 11 := rfl
  have hcl : opS.cells d = opL (opOf d) := rfl
  rw [hsz, hcl] at hc
  have e0 := hc 0 _ rfl
  have e1 := hc 1 _ rfl
  have e2 := hc 2 _ rfl
  have e3 := hc 3 _ rfl
  have e4 := hc 4 _ rfl
  have e5 := hc 5 _ rfl
  have e6 := hc 6 _ rfl
  have e7 := hc 7 _ rfl
  have e8 := hc 8 _ rfl
  have e9 := hc 9 _ rfl
  have e10 := hc 10 _ rfl
  rw [← add_of_add] at e1 e2 e3 e4 e5 e6 e7 e8 e9 e10
  rw [Nat.add_zero] at e0
  exact ⟨ad, d, rfl, hd, ⟨e0, e1, e2, e3, e4, e5, e6, e7, e8, e9, e10⟩, hok⟩
/-- What an operation's data asks, apart. -/
theorem op_ok {w : World} {d : opS.T} (h : opS.ok w d) : (Lit.int .u32 (opOf d).num).wf = true ∧ (Lit.int .i64 (opOf d).l).wf = true ∧ (Lit.int .i64 (opOf d).c).wf = true ∧ (Lit.int .i64 (opOf d).p).wf = true ∧ (Sh.sl rowS).ok w ((opOf d).A, (opOf d).n, (opOf d).cap, (opOf d).rows) ∧ (Lit.int .i64 (opOf d).node).wf = true ∧ (Lit.int .u32 (opOf d).gen).wf = true := by
  obtain ⟨_, h2, _, hp, hr, _, _, hq, _⟩ : (Lit.int .i64 d.1).wf = true ∧ (Lit.int .u32 d.2.1).wf = true ∧ d.2.2.1.size ≤ maxLen ∧ planS.ok w d.2.2.2.1 ∧ plcS.ok w d.2.2.2.2.1 ∧ (Lit.int .i64 d.2.2.2.2.2.1).wf = true ∧ (Lit.int .i64 d.2.2.2.2.2.2.1).wf = true ∧ plS.ok w d.2.2.2.2.2.2.2.1 ∧ True := h
  obtain ⟨p1, p2, p3, _⟩ : (Lit.int .i64 d.2.2.2.1.1).wf = true ∧ (Lit.int .i64 d.2.2.2.1.2.1).wf = true ∧ (Lit.int .i64 d.2.2.2.1.2.2.1).wf = true ∧ True := hp
  obtain ⟨q1, q2, _⟩ : (Lit.int .i64 d.2.2.2.2.2.2.2.1.1).wf = true ∧ (Lit.int .u32 d.2.2.2.2.2.2.2.1.2.1).wf = true ∧ True := hq
  exact ⟨h2, p1, p2, p3, hr, q1, q2⟩
/-- Operations that are not too much. -/
structure Light (n : Nat) (l : List opS.T) : Prop where
  len : n ≤ 30
  each : ∀ d ∈ l, (opOf d).n ≤ 40 ∧ (opOf d).name.size ≤ 200
end Go.Proofs.Ytipmkddcdnbihaa.Tbl
/- What keeps behind every operation on a table: numbers apart, and what is gone is not there. -/
namespace Go.Proofs.Ytipmkddcdnbihaa.Tbl
open Go.RowKit Base Step Vec Shape Erase
/-- A table of which every number is one object's, and none of those that are gone. -/
structure Inv (sl : Nat) (gone : List Int) (t : Tb) : Prop where
  few : t.objs.length ≤ 64
  x0 : 1 ≤ t.nx
  x1 : t.nx ≤ 4294967295
  each : ∀ o ∈ t.objs, num o ≤ t.ls ∧ (rows o).length ≤ 32 ∧ ∀ r ∈ rows o, rN r = sl ∧ ((rP r).map node).Nodup
  apart : (t.objs.map num).Nodup
  gone : ∀ g ∈ gone, g ≤ t.ls ∧ ∀ o ∈ t.objs, num o ≠ g
theorem num_ne {l : List Obj} (h : (l.map num).Nodup) {i j : Nat} {p q : Obj} (hi : l[i]? = some p) (hj : l[j]? = some q) (hij : i ≠ j) : num p ≠ num q := fun e => by
  have h1 := List.pairwise_iff_getElem.1 h
  have hi1 := (List.getElem?_eq_some_iff.1 hi).1
  have hj1 := (List.getElem?_eq_some_iff.1 hj).1
  rw [List.getElem?_eq_getElem hi1] at hi
  rw [List.getElem?_eq_getElem hj1] at hj
  cases hi
  cases hj
  rcases Nat.lt_or_ge i j with h2 | h2
  · have h3 := h1 i j (by simpa using hi1) (by simpa using hj1) h2
    rw [List.getElem_map, List.getElem_map] at h3
    exact h3 e
  · have h3 := h1 j i (by simpa using hj1) (by simpa using hi1) (by omega)
    rw [List.getElem_map, List.getElem_map] at h3
    exact h3 e.symm
theorem inv_begin {sl : Nat} {gone : List Int} {t : Tb} {o : Op} (h : Inv sl gone t) : Inv sl gone (if beginC t.nx o = 0 then { t with nx := t.nx + 1 } else t) := by
  by_cases hb : beginC t.nx o = 0
  · rw [if_pos hb]
    unfold beginC at hb
    split at hb
    · rename_i hc
      obtain ⟨h1, h2⟩ := hc
      have := h.x0
      have := h.x1
      exact ⟨h.few, by show 1 ≤ t.nx + 1; omega, by show t.nx + 1 ≤ 4294967295; omega, h.each, h.apart, h.gone⟩
    · cases hb
  · rw [if_neg hb]
    exact h
theorem commit_zero {sl nd : Nat} {t : Tb} {o : Op} (h : commitC sl nd t o = 0) : numAt t.objs o.num < 0 ∧ t.ls < o.num ∧ t.n < 64 ∧ there t.objs o.name = false := by
  unfold commitC at h
  split at h
  · cases h
  · split at h
    · cases h
    · rename_i h1
      split at h
      · cases h
      · rename_i h2
        split at h
        · cases h
        · rename_i h3
          refine ⟨?_, ?_, by omega, by cases hh : there t.objs o.name <;> simp_all⟩
          · rcases Int.lt_or_le (numAt t.objs o.num) 0 with h4 | h4
            · exact h4
            · exact absurd (.inr h4) h1
          · rcases Int.lt_or_le t.ls o.num with h4 | h4
            · exact h4
            · exact absurd (.inl h4) h2
theorem inv_commit {sl nd : Nat} {gone : List Int} {t t' : Tb} {o : Op} {w : World} (h : Inv sl gone t) (hn : t.objs.length = t.n) (ho : OpAt w o) (hr : CommitR sl nd t o w (commitC sl nd t o) t') : Inv sl gone t' := by
  by_cases hc : commitC sl nd t o = 0
  · obtain ⟨_, hp, hx, hl, ob, hk, hobs⟩ := hr.2 hc
    obtain ⟨_, h2, h3, _⟩ := commit_zero hc
    have hmem : ∀ x ∈ t'.objs, x ∈ t.objs ∨ x = ob := fun x hx => by
      rw [hobs] at hx
      rcases List.mem_append.1 hx with hx | hx
      · rcases List.mem_append.1 hx with hx | hx
        · exact .inl (List.mem_of_mem_take hx)
        · exact .inr (by simpa using hx)
      · exact .inl (List.mem_of_mem_drop hx)
    have hold : ∀ x ∈ t.objs, num x ≠ num ob := fun x hx => by
      have := (h.each x hx).1
      rw [hk.num]
      omega
    refine ⟨?_, by rw [hx]; exact h.x0, by rw [hx]; exact h.x1, fun x hxm => ?_, ?_, fun g hg => ⟨?_, fun x hxm => ?_⟩⟩
    · rw [hobs]
      simp
      omega
    · rcases hmem x hxm with hx1 | rfl
      · refine ⟨?_, (h.each x hx1).2⟩
        have := (h.each x hx1).1
        rw [hl]
        omega
      · refine ⟨by rw [hl, hk.num]; exact Int.le_refl _, by rw [hk.len]; have h4 := (sl_len ho.rows).1; have h5 := hp.n; have h6 := hp.c1; have h7 : o.rows.length = o.n := h4; omega, fun r' hr' => ?_⟩
        obtain ⟨i, hi, hir⟩ := List.getElem_of_mem hr'
        obtain ⟨r, hrr⟩ : ∃ r, o.rows[i]? = some r := ⟨_, List.getElem?_eq_getElem (by rw [← hk.len]; exact hi)⟩
        obtain ⟨ha1, ha2⟩ := hk.alike i r r' hrr (by rw [List.getElem?_eq_getElem hi, hir])
        have hright := hp.rows r (List.mem_of_getElem? hrr)
        have hrok : (Sh.sl plS).ok w (rA r, rN r, rC r, rP r) := sl_each ho.rows hrr
        refine ⟨by rw [ha1, ← hright.all]; exact (sl_len hrok).1.symm, by rw [ha2]; exact hright.apart⟩
    · rw [hobs]
      have hperm : (t.objs.take (place t.objs o.name) ++ [ob] ++ t.objs.drop (place t.objs o.name)).Perm (ob :: t.objs) := by
        have h1 := @List.perm_middle _ ob (t.objs.take (place t.objs o.name)) (t.objs.drop (place t.objs o.name))
        rw [List.take_append_drop] at h1
        simpa using h1
      rw [(hperm.map num).nodup_iff]
      rw [List.map_cons, List.nodup_cons]
      refine ⟨fun hm => ?_, h.apart⟩
      obtain ⟨x, hx1, hx2⟩ := List.mem_map.1 hm
      exact hold x hx1 hx2
    · have := (h.gone g hg).1
      rw [hl]
      omega
    · rcases hmem x hxm with hx1 | rfl
      · exact (h.gone g hg).2 x hx1
      · have := (h.gone g hg).1
        rw [hk.num]
        omega
  · rw [hr.1 hc]
    exact h
theorem inv_sub {sl : Nat} {gone : List Int} {t t' : Tb} (h : Inv sl gone t) (hx : t'.nx = t.nx) (hl : t'.ls = t.ls) (hs : t'.objs.Sublist t.objs) : Inv sl gone t' :=
  ⟨Nat.le_trans hs.length_le h.few, by rw [hx]; exact h.x0, by rw [hx]; exact h.x1, fun o ho => by rw [hl]; exact h.each o (hs.mem ho), h.apart.sublist (hs.map num), fun g hg => by rw [hl]; exact ⟨(h.gone g hg).1, fun o ho => (h.gone g hg).2 o (hs.mem ho)⟩⟩
theorem removed_sub {t t' : Tb} {i : Nat} (h : removed t i t') : t'.objs.Sublist t.objs := by
  rw [h.2.2, ← List.eraseIdx_eq_take_drop_succ]
  exact List.eraseIdx_sublist ..
/-- An object that is let go. -/
theorem inv_gone {sl : Nat} {gone : List Int} {t t' : Tb} {i : Nat} {ob : Obj} (h : Inv sl gone t) (hr : removed t i t') (ho : t.objs[i]? = some ob) : Inv sl (gone ++ [num ob]) t' := by
  have h0 := inv_sub h hr.1 hr.2.1 (removed_sub hr)
  refine ⟨h0.few, h0.x0, h0.x1, h0.each, h0.apart, fun g hg => ?_⟩
  rcases List.mem_append.1 hg with hg | hg
  · exact h0.gone g hg
  · have hg : g = num ob := by simpa using hg
    subst hg
    refine ⟨by rw [hr.2.1]; exact (h.each ob (List.mem_of_getElem? ho)).1, fun x hx => ?_⟩
    rw [hr.2.2] at hx
    rcases List.mem_append.1 hx with hx | hx
    · obtain ⟨j, hj, hjx⟩ := List.getElem_of_mem hx
      have hj2 : j < i ∧ j < t.objs.length := by simp at hj; exact ⟨by omega, by omega⟩
      have : t.objs[j]? = some x := by
        rw [← hjx, List.getElem_take, List.getElem?_eq_getElem hj2.2]
      exact num_ne h.apart this ho (by omega)
    · obtain ⟨j, hj, hjx⟩ := List.getElem_of_mem hx
      have hj2 : i + 1 + j < t.objs.length := by simp at hj; omega
      have : t.objs[i + 1 + j]? = some x := by
        rw [← hjx, List.getElem_drop, List.getElem?_eq_getElem hj2]
      exact num_ne h.apart this ho (by omega)
theorem inv_move {sl nd : Nat} {gone : List Int} {t t' : Tb} {o : Op} (h : Inv sl gone t) (hr : MoveR sl nd t o (moveC sl nd t o) t') : Inv sl gone t' := by
  by_cases hc : moveC sl nd t o = 0
  · obtain ⟨k, ob, ob', hk, hob, hright, hm, hx, hl, hobs⟩ := hr.2 hc
    have hkl := (List.getElem?_eq_some_iff.1 hob).1
    have hmap : (t.objs.set k ob').map num = t.objs.map num := by
      rw [List.map_set, hm.num]
      apply List.ext_getElem?
      intro i
      rcases Decidable.em (i = k) with hi | hi
      · subst hi
        rw [List.getElem?_set, List.getElem?_map, hob]
        simp [hkl]
      · rw [List.getElem?_set_ne (Ne.symm hi)]
    have hmem : ∀ x ∈ t'.objs, x ∈ t.objs ∨ x = ob' := fun x hx => by
      rw [hobs] at hx
      exact List.mem_or_eq_of_mem_set hx
    have hobm := List.mem_of_getElem? hob
    refine ⟨by rw [hobs, List.length_set]; exact h.few, by rw [hx]; exact h.x0, by rw [hx]; exact h.x1, fun x hxm => ?_, by rw [hobs, hmap]; exact h.apart, fun g hg => ⟨by rw [hl]; exact (h.gone g hg).1, fun x hxm => ?_⟩⟩
    · rw [hl]
      rcases hmem x hxm with hx1 | rfl
      · exact h.each x hx1
      · refine ⟨by rw [hm.num]; exact (h.each ob hobm).1, by rw [hm.len]; exact (h.each ob hobm).2.1, fun r' hr' => ?_⟩
        obtain ⟨i, hi, hir⟩ := List.getElem_of_mem hr'
        obtain ⟨r, hrr⟩ : ∃ r, (rows ob)[i]? = some r := ⟨_, List.getElem?_eq_getElem (by rw [← hm.len]; exact hi)⟩
        obtain ⟨ha1, ha2⟩ := hm.each i r r' hrr (by rw [List.getElem?_eq_getElem hi, hir])
        have hold := (h.each ob hobm).2.2 r (List.mem_of_getElem? hrr)
        refine ⟨by rw [ha1]; exact hold.1, ?_⟩
        rw [ha2]
        split
        · rename_i hij
          subst hij
          have hto : toRow t o = (rP r).set o.slot.toNat (pl o.node o.gen) := by
            unfold toRow rowOf
            have e1 : t.objs[(numAt t.objs o.num).toNat]? = some ob := by rw [hk]; exact hob
            rw [e1]
            simp only [hrr]
          rw [← hto]
          exact hright.apart
        · exact hold.2
    · rcases hmem x hxm with hx1 | rfl
      · exact (h.gone g hg).2 x hx1
      · rw [hm.num]
        exact (h.gone g hg).2 ob hobm
  · rw [hr.1 hc]
    exact h
/-- Behind any operation. -/
theorem inv_apply {sl nd : Nat} {gone : List Int} {t t' : Tb} {o : Op} {w : World} (h : Inv sl gone t) (hn : t.objs.length = t.n) (ho : OpAt w o) (hr : ApplyR sl nd t o w t') : Inv sl gone t' := by
  unfold ApplyR at hr
  split at hr
  · rw [hr]
    exact inv_begin h
  · split at hr
    · exact inv_commit h hn ho hr
    · split at hr
      · split at hr
        · exact inv_sub h hr.1 hr.2.1 (removed_sub hr)
        · rw [hr]; exact h
      · split at hr
        · exact inv_move h hr
        · rw [hr]; exact h
/-- Behind a removal. -/
theorem inv_removal {sl nd : Nat} {gone : List Int} {t t' : Tb} {o : Op} {w : World} {ob : Obj} (h : Inv sl gone t) (hk : o.kind = 3) (hf : found t.objs o.name = some ob) (hr : ApplyR sl nd t o w t') : Inv sl (gone ++ [num ob]) t' := by
  unfold ApplyR at hr
  rw [if_neg (by omega), if_neg (by omega), if_pos hk] at hr
  unfold found at hf
  split at hf
  · rename_i ht
    rw [if_pos ht] at hr
    exact inv_gone h hr hf
  · cases hf
theorem inv_new {sl : Nat} {A : Option Addr} {c : Nat} : Inv sl [] ⟨1, 0, A, 0, c, []⟩ := ⟨Nat.zero_le _, by show (1 : Int) ≤ 1; decide, by show (1 : Int) ≤ 4294967295; decide, fun o ho => (by cases ho), List.nodup_nil, fun g hg => (by cases hg)⟩
theorem obj_rows {w : World} {o : Obj} (h : objS.ok w o) : (rows o).length = pN o := (sl_len (obj_ok h).2.2.2).1
theorem Inv.small {sl : Nat} {gone : List Int} {t : Tb} {w : World} {gt nd sl' : Nat} (h : Inv sl gone t) (ht : TbAt w gt sl' nd t) (hs : sl ≤ 24) : ∀ o ∈ t.objs, Small o := fun o ho => by
  obtain ⟨i, hi, hio⟩ := List.getElem_of_mem ho
  have hok : objS.ok (erase w gt) o := sl_each ht.ok (i := i) (by rw [List.getElem?_eq_getElem hi, hio])
  have h1 := obj_rows hok
  obtain ⟨_, h2, h3⟩ := h.each o ho
  exact ⟨by omega, fun r hr => by have := (h3 r hr).1; omega⟩
theorem Inv.n {sl : Nat} {gone : List Int} {t : Tb} {w : World} {gt nd sl' : Nat} (h : Inv sl gone t) (ht : TbAt w gt sl' nd t) : t.objs.length = t.n ∧ t.n ≤ 64 := by
  have h1 := (sl_len ht.ok).1
  have h2 : t.objs.length = t.n := h1
  have := h.few
  omega
end Go.Proofs.Ytipmkddcdnbihaa.Tbl
/- The chapter's example of tables, walked. -/
namespace Go.Proofs.Ytipmkddcdnbihaa.Tbl
open Go.RowKit Base Step Vec Shape Erase
/-- The example's operations. -/
abbrev exOp (k : Int) (s : ByteArray) (p : Int) : Op := ⟨k, 1, s, 0, 0, p, none, 0, 0, [], 0, 0, 0, 0⟩
theorem exOp_at (w : World) (k : Int) (s : ByteArray) (p : Int) (hs : s.size ≤ 200) (hp : (Lit.int .i64 p).wf = true) : OpAt w (exOp k s p) := by
  have h0 : (Lit.int .i64 0).wf = true := by decide
  have h1 : (Lit.int .u32 1).wf = true := by decide
  have h2 : (Lit.int .u32 0).wf = true := by decide
  have hr : (Sh.sl rowS).ok w (none, 0, 0, []) := ⟨rfl, Nat.le_refl _, by decide, fun _ => rfl, fun i x hx => (by cases hx)⟩
  exact ⟨h1, by show s.size ≤ 140737488355328; omega, h0, h0, hp, hr, Nat.zero_le _, fun r hr => (by cases hr), h2, h0⟩
theorem name_one {c : UInt8} (h : 33 ≤ c.toNat ∧ c.toNat ≤ 126) : NameOk ⟨#[c]⟩ := ⟨fun i hi => by
  have : i = 0 := by have : (⟨#[c]⟩ : ByteArray).size = 1 := rfl; omega
  subst this
  exact h, Nat.le_refl _, by show 1 ≤ 64; decide⟩
theorem plan_ex (k : Int) (s : ByteArray) : PlanOk 1 1 (exOp k s 1) := ⟨Int.le_refl _, by show (0 : Int) ≤ 16384; decide, Int.le_refl _, by show (0 : Int) ≤ 32; decide, Int.le_refl _, by show (1 : Int) ≤ 256; decide, rfl, fun r hr => (by cases hr)⟩
abbrev exT0 : Tb := ⟨1, 0, none, 0, 0, []⟩
abbrev exT1 : Tb := ⟨2, 0, none, 0, 0, []⟩
theorem ex_begin : applyC 1 1 exT0 (exOp 1 ⟨#[]⟩ 0) = 0 := by
  unfold applyC beginC
  simp
theorem ex_begin_r {w : World} {t' : Tb} (h : ApplyR 1 1 exT0 (exOp 1 ⟨#[]⟩ 0) w t') : t' = exT1 := by
  unfold ApplyR beginC at h
  simpa using h
theorem ex_commit : applyC 1 1 exT1 (exOp 2 ⟨#[97]⟩ 1) = 0 := by
  unfold applyC commitC
  rw [if_neg (by decide), if_pos rfl, if_neg (fun h => h ⟨name_one (by decide), plan_ex _ _⟩), if_neg, if_neg, if_neg]
  · show ¬ 64 ≤ 0
    decide
  · show ¬ ((1 : Int) ≤ 0 ∨ (2 : Int) ≤ 1)
    decide
  · rintro (h | h)
    · cases h
    · exact absurd h (by decide)
theorem ex_commit_r {w : World} {t' : Tb} (h : ApplyR 1 1 exT1 (exOp 2 ⟨#[97]⟩ 1) w t') : ∃ ob, t'.nx = 2 ∧ t'.ls = 1 ∧ t'.objs = [ob] ∧ Like (exOp 2 ⟨#[97]⟩ 1) ob := by
  unfold ApplyR at h
  rw [if_neg (by decide), if_pos rfl] at h
  have hc := ex_commit
  unfold applyC at hc
  rw [if_neg (by decide), if_pos rfl] at hc
  obtain ⟨_, _, h1, h2, ob, h3, h4⟩ := h.2 hc
  exact ⟨ob, h1, h2, by simpa using h4, h3⟩
theorem ex_twice {t : Tb} {ob : Obj} (ho : t.objs = [ob]) (hn : num ob = 1) : applyC 1 1 t (exOp 2 ⟨#[98]⟩ 1) = 7 := by
  unfold applyC commitC
  rw [if_neg (by decide), if_pos rfl, if_neg (fun h => h ⟨name_one (by decide), plan_ex _ _⟩), if_pos]
  refine .inr ?_
  rw [ho]
  unfold numAt numFrom
  rw [if_pos hn]
  decide
theorem ex_twice_r {w : World} {t t' : Tb} {ob : Obj} (ho : t.objs = [ob]) (hn : num ob = 1) (h : ApplyR 1 1 t (exOp 2 ⟨#[98]⟩ 1) w t') : t' = t := by
  unfold ApplyR at h
  rw [if_neg (by decide), if_pos rfl] at h
  have hc := ex_twice ho hn
  unfold applyC at hc
  rw [if_neg (by decide), if_pos rfl] at hc
  exact h.1 (by rw [hc]; decide)
theorem ex_found {ob : Obj} (hn : name ob = ⟨#[97]⟩) : found [ob] ⟨#[97]⟩ = some ob := by
  have h0 : cmpS (⟨#[97]⟩ : ByteArray) ⟨#[97]⟩ = 0 := by decide
  have hp : place [ob] ⟨#[97]⟩ = 0 := by
    unfold place
    show bsGo _ 1 0 1 = 0
    unfold bsGo
    rw [if_pos (by decide), if_neg]
    · rfl
    · show ¬ cmpS (name ob) ⟨#[97]⟩ < 0
      rw [hn, h0]
      decide
  have ht : there [ob] ⟨#[97]⟩ = true := by
    unfold there
    rw [hp]
    show decide (cmpS (name ob) ⟨#[97]⟩ = 0) = true
    rw [hn, h0]
    rfl
  unfold found
  rw [if_pos ht, hp]
  rfl
theorem fresh_chg {w w' W : World} {g : Nat} (h : Chg (fun i => i = g) w' W) (he : Ext w w') (hg : w.heap.size ≤ g) : Ext w W := he.chg h fun i hi => by rw [hi]; exact hg
end Go.Proofs.Ytipmkddcdnbihaa.Tbl
/- TableApart, walked. -/
namespace Go.Proofs.Ytipmkddcdnbihaa.Tbl
open Go.RowKit Base Step Vec Shape Erase
theorem info_u32 : (Try.prog.info? 27).map (fun i => (i.zero, i.size, i.bytes)) = some (some (.int .u32 0), 1, 4) := by kernel_rfl
/-- The law under way. -/
structure LoopSt (w W : World) (gt sl nd : Nat) (gone : List Int) (t : Tb) (X : Option Addr) (cx : Nat) : Prop where
  tb : TbAt W gt sl nd t
  inv : Inv sl gone t
  row : New w W 27 1 X gone.length cx (nums .u32 gone)
  wf : ∀ g ∈ gone, (Lit.int .u32 g).wf = true
  gt : w.heap.size ≤ gt
  ext : Ext w W
theorem LoopSt.ext_ {w W W' : World} {gt sl nd cx : Nat} {gone : List Int} {t : Tb} {X : Option Addr} (h : LoopSt w W gt sl nd gone t X cx) (he : Ext W W') : LoopSt w W' gt sl nd gone t X cx :=
  ⟨h.tb.ext he, h.inv, h.row.extNew he, h.wf, h.gt, h.ext.trans he⟩
/-- An operation out of the slice. -/
theorem op_opAt {w : World} {d : opS.T} (h : opS.ok w d) (h1 : (opOf d).n ≤ 40) (h2 : (opOf d).name.size ≤ 200) (h3 : ∀ r ∈ (opOf d).rows, rN r ≤ 8796093021952) : OpAt w (opOf d) := by
  obtain ⟨k1, k2, k3, k4, k5, k6, k7⟩ := op_ok h
  exact ⟨k1, by omega, k2, k3, k4, k5, by omega, h3, k7, k6⟩
theorem TbAt.plain {w W : World} {gt sl nd : Nat} {t : Tb} {S : Nat → Prop} (h : TbAt w gt sl nd t) (hc : Chg S w W) (hS : ∀ i, S i → ∃ cs f, w.heap[i]? = some (.cells cs 27 f)) : TbAt W gt sl nd t :=
  ⟨hc.at_ h.at_ (fun k => by
    obtain ⟨cs, f, h1⟩ := hS _ k
    rw [h.at_] at h1
    cases h1), Sh.ok_plain h.ok hc fun i hi => by
    obtain ⟨cs, f, h1⟩ := hS i hi
    exact ⟨cs, _, f, h1, rfl⟩⟩
theorem Did.ans {w W : World} {gt sl nd : Nat} {code : Int} {R : Tb → World → Prop} {e : Ending} (h : Did w gt sl nd code R e W) : e = .returned (.int .i64 code) := h.1
theorem LoopSt.did {w W W' : World} {gt sl nd cx : Nat} {gone : List Int} {t t' : Tb} {X : Option Addr} (h : LoopSt w W gt sl nd gone t X cx) (hc : Chg (fun i => i = gt) W W') (ht : TbAt W' gt sl nd t') (hi : Inv sl gone t') : LoopSt w W' gt sl nd gone t' X cx :=
  ⟨ht, hi, Own.kind h.row hc fun i hi _ => by subst hi; exact ⟨_, _, _, h.tb.at_, by decide⟩, h.wf, h.gt, h.ext.chg hc fun i hi => by rw [hi]; exact h.gt⟩
theorem LoopSt.app {w W W' : World} {gt sl nd cx cx' : Nat} {gone : List Int} {t : Tb} {X X' : Option Addr} {g : Int} (h : LoopSt w W gt sl nd gone t X cx) (hc : Chg (fun i => (Value.slice X gone.length cx).ownBlock = some i) W W') (hi : Inv sl (gone ++ [g]) t) (hr : New w W' 27 1 X' (gone.length + 1) cx' (nums .u32 (gone ++ [g]))) (hg : (Lit.int .u32 g).wf = true) : LoopSt w W' gt sl nd (gone ++ [g]) t X' cx' :=
  ⟨h.tb.plain hc fun i hi => own_kind h.row hi, hi, by rw [List.length_append]; exact hr, fun x hx => by
    rcases List.mem_append.1 hx with hx | hx
    · exact h.wf x hx
    · have hx : x = g := by simpa using hx
      rw [hx]
      exact hg, h.gt, h.ext.chg hc fun i hi => h.row.foot i hi⟩
/-- What an answer tells of an object that went. -/
def Rem (bb : Bool) (o : Op) (b : Bool) : Prop := bb = true → o.kind = 3 ∧ b = true
theorem rem_no {o : Op} {b : Bool} : Rem false o b := fun h => by cases h
end Go.Proofs.Ytipmkddcdnbihaa.Tbl
