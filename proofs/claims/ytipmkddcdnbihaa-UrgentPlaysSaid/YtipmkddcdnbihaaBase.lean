/- Words that all walks share: how slices read, and what a call leaves as it was. No program in sight. -/
import Derived.WalkKit
import Derived.KernelRfl
import Derived.Lib.Hide
import Derived.Maps.AppendAt
import Derived.Deep.AppendLies
import Derived.OwnWalk
import Derived.ScopeJumps
import Derived.WalkMore
import Derived.Deep.Draws
import Derived.Deep.OwnRows
import Derived.Laws.BytesArg
import Derived.SizedLaws
import Derived.ChangeSlices
import Derived.OpenShut
namespace Go.Proofs.Ytipmkddcdnbihaa.Base
open Go.RowKit

/-- A slice of numbers reads so. -/
structure Rd (w : World) (k : IntKind) (A : Option Addr) (n : Nat) (xs : List Int) : Prop where
  len : xs.length = n
  room : n ≤ 9223372036854775807
  wf : ∀ x ∈ xs, (Lit.int k x).wf = true
  cell : 0 < n → ∃ ad, A = some ad ∧ ∀ j, j < n → w.cell? (ad.add j) = some (.int k (xs.getD j 0))

theorem getD_mem {xs : List Int} {j : Nat} (h : j < xs.length) : xs.getD j 0 ∈ xs := by
  rw [List.getD_eq_getElem?_getD, List.getElem?_eq_getElem h]; simp
theorem wf_u8 {x : Int} (h : (Lit.int .u8 x).wf = true) : 0 ≤ x ∧ x < 256 := by
  simp [Lit.wf, IntKind.min, IntKind.max, IntKind.bits, IntKind.signed] at h
  omega
theorem wf_u16 {x : Int} (h : (Lit.int .u16 x).wf = true) : 0 ≤ x ∧ x < 65536 := by
  simp [Lit.wf, IntKind.min, IntKind.max, IntKind.bits, IntKind.signed] at h
  omega
theorem wf_u32 {x : Int} (h : (Lit.int .u32 x).wf = true) : 0 ≤ x ∧ x < 4294967296 := by
  simp [Lit.wf, IntKind.min, IntKind.max, IntKind.bits, IntKind.signed] at h
  omega
theorem wf_u64 {x : Int} (h : (Lit.int .u64 x).wf = true) : 0 ≤ x ∧ x < 18446744073709551616 := by
  simp [Lit.wf, IntKind.min, IntKind.max, IntKind.bits, IntKind.signed] at h
  omega
theorem wf_i64 {x : Int} (h : (Lit.int .i64 x).wf = true) : -9223372036854775808 ≤ x ∧ x ≤ 9223372036854775807 := by
  simp [Lit.wf, IntKind.min, IntKind.max, IntKind.bits, IntKind.signed] at h
  omega
theorem u8_wf {x : Int} (h0 : 0 ≤ x) (h1 : x < 256) : (Lit.int .u8 x).wf = true := by
  simp [Lit.wf, IntKind.min, IntKind.max, IntKind.bits, IntKind.signed]
  omega

theorem Rd.at_ {w : World} {k : IntKind} {A : Option Addr} {n : Nat} {xs : List Int} (h : Rd w k A n xs) {j : Nat} (hj : j < n) : ∃ ad, A = some ad ∧ w.cell? (ad.add j) = some (.int k (xs.getD j 0)) := by
  obtain ⟨ad, e, hc⟩ := h.cell (by omega)
  exact ⟨ad, e, hc j hj⟩
theorem Rd.wfAt {w : World} {k : IntKind} {A : Option Addr} {n : Nat} {xs : List Int} (h : Rd w k A n xs) {j : Nat} (hj : j < n) : (Lit.int k (xs.getD j 0)).wf = true :=
  h.wf _ (getD_mem (by rw [h.len]; exact hj))
theorem Rd.lt {w : World} {k : IntKind} {ad : Addr} {n : Nat} {xs : List Int} (h : Rd w k (some ad) n xs) (hn : 0 < n) : ad.block < w.heap.size := by
  obtain ⟨a, e, hc⟩ := h.cell hn
  cases e
  have := World.block_lt_of_cell? w _ (hc 0 hn)
  simpa [Addr.add] using this
theorem block_add (a : Addr) (j : Nat) : (a.add j).block = a.block := by unfold Addr.add; split <;> rfl
/-- What reads so reads so in every world in which its block is as it was. -/
theorem Rd.keep {w w' : World} {k : IntKind} {A : Option Addr} {n : Nat} {xs : List Int} (h : Rd w k A n xs) (hb : ∀ ad, A = some ad → 0 < n → w'.heap[ad.block]? = w.heap[ad.block]?) : Rd w' k A n xs :=
  ⟨h.len, h.room, h.wf, fun hn => by
    obtain ⟨ad, e, hc⟩ := h.cell hn
    exact ⟨ad, e, fun j hj => by rw [World.cell?_of_block (w := w) (by rw [block_add]; exact hb ad e hn)]; exact hc j hj⟩⟩
theorem Rd.below {w w' : World} {k : IntKind} {A : Option Addr} {n : Nat} {xs : List Int} (h : Rd w k A n xs) (hb : Below w.heap.size w w') : Rd w' k A n xs :=
  h.keep fun ad e hn => by subst e; exact hb.block _ (h.lt hn)

theorem take_next {xs : List Int} {n k : Nat} {c : Int} (hl : xs.length = n) (hk : k < n) (hc : xs.getD k 0 = c) : xs.take (k + 1) = xs.take k ++ [c] := by
  rw [List.take_succ_eq_append_getElem (by rw [hl]; exact hk), ← hc, List.getD_eq_getElem?_getD, List.getElem?_eq_getElem (by rw [hl]; exact hk)]; rfl

def nums (k : IntKind) (xs : List Int) : List Value := xs.map fun x => .int k x
theorem nums_length (k : IntKind) (xs : List Int) : (nums k xs).length = xs.length := by simp [nums]
theorem nums_append (k : IntKind) (xs ys : List Int) : nums k (xs ++ ys) = nums k xs ++ nums k ys := by simp [nums]
theorem own_rd {w : World} {base n : Nat} {e : TypeId} {k : IntKind} {v : Value} {xs : List Int} (h : w.ownsRow base e 1 v n (nums k xs)) (hw : ∀ x ∈ xs, (Lit.int k x).wf = true) : ∃ A c, v = .slice A n c ∧ Rd w k A n xs := by
  have hl : xs.length = n := by have := h.1; simp [nums] at this; exact this
  have hm : n ≤ 9223372036854775807 := by
    rcases h.2 with ⟨_, h1⟩ | ⟨g', cap', cur, he, _, _, h1, h2, _⟩
    · omega
    · simp only [maxLen] at h2
      omega
  rcases Nat.eq_zero_or_pos n with h0 | h0
  · rcases h.2 with ⟨rfl, rfl⟩ | ⟨g, cap, cur, rfl, _⟩
    · exact ⟨none, 0, rfl, hl, by omega, hw, fun hp => absurd hp (by omega)⟩
    · exact ⟨_, cap, rfl, hl, by omega, hw, fun hp => absurd hp (by omega)⟩
  · obtain ⟨g, cap, rfl, _, _⟩ := h.form h0
    refine ⟨_, cap, rfl, hl, hm, hw, fun _ => ⟨_, rfl, fun j hj => h.cells (g := g) rfl j _ ?_⟩⟩
    simp [nums, List.getElem?_eq_getElem (show j < xs.length by omega), List.getD_eq_getElem?_getD]
/-- A block that has just been laid. -/
theorem rd_new (w : World) (k : IntKind) (xs : List Int) (C : Array Value) (e : TypeId) (fr : Nat × Nat) (hC : C.toList = nums k xs) (hn : xs.length ≤ 9223372036854775807) (hw : ∀ x ∈ xs, (Lit.int k x).wf = true) :
    Rd (w.alloc (.cells C e fr)) k (some ⟨w.heap.size, 0, none⟩) xs.length xs :=
  ⟨rfl, hn, hw, fun _ => ⟨_, rfl, fun j hj => by
    have hb : (w.alloc (.cells C e fr)).heap[w.heap.size]? = some (.cells C e fr) := by
      show (w.heap.push _)[w.heap.size]? = _
      simp
    refine World.news_of_block hb j _ ?_
    rw [hC]
    simp [nums, List.getElem?_eq_getElem hj, List.getD_eq_getElem?_getD]⟩⟩

section
variable {P : Program}
theorem nums_oneCell (k : IntKind) (xs : List Int) : ∀ u ∈ nums k xs, u.oneCell' = true := by
  intro u hu
  obtain ⟨x, _, rfl⟩ := List.mem_map.1 hu
  rfl
/-- An append of numbers that a slice reads, nil or not. -/
theorem run_append_rd (w : World) (base : Nat) (t ty e : TypeId) (k : IntKind) (bytes : Nat) (ht : P.underlying t = some (.slice e)) (hinfo : (P.info? e).map (fun i => (i.zero, i.size, i.bytes)) = some (some (.int k 0), 1, bytes)) (hb0 : 0 < bytes)
    (v : Value) (n : Nat) (xs : List Int) (hown : w.ownsRow base e 1 v n (nums k xs)) (A : Option Addr) (m c : Nat) (ys : List Int) (hr : Rd w k A m ys)
    (hbytes : (n + m) * bytes ≤ 140737488355328) (hbase : base ≤ w.heap.size) :
    ∃ v' w', (Builtin.append_ #[t, t] ty #[v, .slice A m c]).run P w = .ok v' w' ∧ w'.ownsRow base e 1 v' (n + m) (nums k (xs ++ ys)) ∧ w.grownBy w' v.ownBlock ∧ (v'.ownBlock = v.ownBlock ∨ v'.ownBlock = some w.heap.size) := by
  obtain ⟨i, hi, hz, hsize, hby⟩ := info_parts hinfo
  have hlen : n + m ≤ 140737488355328 := Nat.le_trans (Nat.le_mul_of_pos_right _ hb0) hbytes
  rcases A with _ | ad
  · have h0 : m = 0 := by
      rcases Nat.eq_zero_or_pos m with h0 | h0
      · exact h0
      · obtain ⟨ad, e, _⟩ := hr.cell h0
        cases e
    subst h0
    obtain rfl : ys = [] := List.eq_nil_of_length_eq_zero hr.len
    refine ⟨v, w, ?_, by simpa using hown, World.grownBy.refl w _, .inl rfl⟩
    rcases hown.2 with ⟨rfl, rfl⟩ | ⟨g, cap, cur, rfl, _, _, hnc, _⟩
    · simp [Builtin.append_, run_underlying ht, sizeOf, typeInfo, hi, Builtin.lenOf, Builtin.firstCells]
    · simp [Builtin.append_, run_underlying ht, sizeOf, typeInfo, hi, Builtin.lenOf, Builtin.firstCells, hnc, storeCells]
  · have hc : ∀ j, j < m → w.cell? (ad.add j) = some (.int k (ys.getD j 0)) := fun j hj => by
      obtain ⟨a', e, hc⟩ := hr.cell (by omega)
      cases e
      exact hc j hj
    obtain ⟨v', w', hrun, h2, h3, _, h5⟩ := run_append_own_at (P := P) w base t ty e i (.int k 0) 1 bytes ht hi hz hsize hby rfl (by omega) v n (nums k xs) hown ad m c (nums k ys) (by simp [nums, hr.len])
      (fun j u hu => by
        have hj : j < ys.length := by
          rcases Nat.lt_or_ge j ys.length with h | h
          · exact h
          · simp [nums, List.getElem?_eq_none h] at hu
        have hg : (nums k ys)[j]? = some (.int k (ys.getD j 0)) := by simp [nums, List.getElem?_eq_getElem hj, List.getD_eq_getElem?_getD]
        rw [hg] at hu
        cases hu
        exact hc j (by rw [← hr.len]; exact hj)) (nums_oneCell k ys) (by simp only [maxLen]; omega) hbytes hbase
    exact ⟨v', w', hrun, by rw [nums_append]; exact h2, h3, h5⟩
theorem wpList_append_rd {ops : Array Oper} {rest : List Oper} {o : Oper} {a : Act} {Q : Exit → Act → World → Prop} (w : World) (hgd : Region.wanted o (yielded ops a.tmps) = true) (s x : Operand) (t : TypeId)
    (ho : o.op = .call { callee := .builtin .append, args := #[s, x], argTypes := #[t, t] })
    (base : Nat) (e : TypeId) (k : IntKind) (bytes : Nat) (ht : P.underlying t = some (.slice e)) (hinfo : (P.info? e).map (fun i => (i.zero, i.size, i.bytes)) = some (some (.int k 0), 1, bytes)) (hb0 : 0 < bytes)
    (v : Value) (n : Nat) (xs : List Int) (hs : a.eval s = v) (hown : w.ownsRow base e 1 v n (nums k xs)) (A : Option Addr) (m c : Nat) (ys : List Int) (hx : a.eval x = .slice A m c) (hr : Rd w k A m ys)
    (hbytes : (n + m) * bytes ≤ 140737488355328) (hbase : base ≤ w.heap.size)
    (h : ∀ v' w', w'.ownsRow base e 1 v' (n + m) (nums k (xs ++ ys)) → w.grownBy w' v.ownBlock → (v'.ownBlock = v.ownBlock ∨ v'.ownBlock = some w.heap.size) → wpList P ops Q rest (a.put o.dst v') w') : wpList P ops Q (o :: rest) a w := by
  refine wpList_step fun K hK => ?_
  rw [if_pos hgd]
  obtain ⟨v', w', hrun, h2, h3, h4⟩ := run_append_rd (P := P) w base t o.type e k bytes ht hinfo hb0 v n xs hown A m c ys hr hbytes hbase
  unfold Oper.wp execOp
  simp only [ho, resolve, invoke, builtin, Sem.run_bind, Sem.run_pure, Result.andThen_ok, List.map_toArray, List.map_cons, List.map_nil, hs, hx, hrun]
  exact hK _ _ (h v' w' h2 h3 h4)
end
theorem wf_append {k : IntKind} {xs ys : List Int} (hx : ∀ x ∈ xs, (Lit.int k x).wf = true) (hy : ∀ x ∈ ys, (Lit.int k x).wf = true) : ∀ x ∈ xs ++ ys, (Lit.int k x).wf = true := fun x h => by
  rcases List.mem_append.1 h with h | h
  · exact hx x h
  · exact hy x h
/-- A row of the call's own is kept where only another block, or none, is written. -/
theorem own_below {w w' : World} {base : Nat} {e : TypeId} {size n : Nat} {v : Value} {xs : List Value} (h : w.ownsRow base e size v n xs) (hb : Below w.heap.size w w') : w'.ownsRow base e size v n xs :=
  h.kept ⟨hb.os, hb.tape, hb.output, hb.size, fun i hi _ => hb.block i hi⟩ (row := none) (by cases v.ownBlock <;> simp)
/-- What reads so from elsewhere reads so behind an append to a row that lies from 'base' on. -/
theorem Rd.grown {w w' : World} {k : IntKind} {A : Option Addr} {n : Nat} {xs : List Int} {row : Option Nat} (h : Rd w k A n xs) (hg : w.grownBy w' row) (hne : ∀ ad, A = some ad → some ad.block ≠ row) : Rd w' k A n xs :=
  h.keep fun ad e hn => by subst e; exact hg.block _ (h.lt hn) (hne ad rfl)

section
open Go.ChangeShapes Go.WideShapes
/-- A slice of numbers that came in reads as a list. -/
theorem rd_of_trod {H : Type} {enc : TypeId × Value → H} {P : Program} {W : World} {base : Nat} {held : Bool} {t e : TypeId} {k : IntKind} {a : Option Addr} {len cap : Nat} {d : DataW H} {ps : List MemPlace}
    (hu : P.underlying t = some (.slice e)) (he : P.underlying e = some (.int k)) (hc : P.cellsOf e = 1) (h : DataW.Trod enc P W base (fun _ => true) held t (.slice a len cap) d ps) : ∃ l, Rd W k a len l ∧ len ≤ cap ∧ (a = none → cap = 0) := by
  obtain ⟨fuel, hf⟩ := h
  rcases open_ints hu he hc hf with ⟨hcs, _⟩ | ⟨x, l, c, zs, hcs, _, hl, hm, hz, _, hcell, hwz⟩
  · simp [Value.cells] at hcs
    obtain ⟨rfl, rfl, rfl⟩ := hcs
    exact ⟨[], ⟨rfl, by omega, by simp, fun h => by omega⟩, Nat.le_refl _, fun _ => rfl⟩
  · simp [Value.cells] at hcs
    obtain ⟨rfl, rfl, rfl⟩ := hcs
    have hz' : zs.length = cap := by simpa using hz
    refine ⟨zs.take len, ⟨by simp; omega, by simp only [maxLen] at hm; omega, fun x hx => hwz x (List.mem_of_mem_take hx), fun _ => ⟨_, rfl, fun j hj => ?_⟩⟩, hl, fun h => by cases h⟩
    have h1 := hcell j (by omega)
    rw [h1, List.getD_eq_getElem?_getD, List.getD_eq_getElem?_getD, List.getElem?_take_of_lt hj]
/-- And is no longer than the row's reach allows. -/
theorem sized_of_trod {H : Type} {enc : TypeId × Value → H} {P : Program} {W : World} {base : Nat} {spare : Nat → Bool} {held : Bool} {t e : TypeId} {k : IntKind} {a : Option Addr} {len cap : Nat} {d : DataW H} {ps : List MemPlace} {ts : List TypeId} {ds : List (DataW H)} {j : Nat}
    (hsz : (DataW.weightsEach P ts ds).all (· ≤ reachBytes) = true) (ht : ts[j]? = some t) (hd : ds[j]? = some d) (hu : P.underlying t = some (.slice e)) (he : P.underlying e = some (.int k)) (hc : P.cellsOf e = 1) {B : Nat} (hB : P.bytesOf e = B)
    (h : DataW.Trod enc P W base spare held t (.slice a len cap) d ps) : len * B ≤ 140737488351232 := by
  obtain ⟨fuel, hf⟩ := h
  rcases open_ints hu he hc hf with ⟨hcs, _⟩ | ⟨x, l, c, zs, hcs, _, hl, _, hz, hx, _, _⟩
  · simp [Value.cells] at hcs
    obtain ⟨rfl, rfl, rfl⟩ := hcs
    simp
  · simp [Value.cells] at hcs
    obtain ⟨rfl, rfl, rfl⟩ := hcs
    obtain ⟨hx, _⟩ := Prod.mk.inj hx
    subst hx
    have z := sized_slice hsz ht hd hu
    rw [hB] at z
    have hl2 : len ≤ zs.length := by
      rw [hz]
      split
      · exact hl
      · exact Nat.le_refl _
    have h1 : (lits (H := H) k (zs.take len)).length + (lits (H := H) k (zs.drop len)).length = zs.length := by
      simp [lits]
      omega
    rw [h1] at z
    exact Nat.le_trans (Nat.mul_le_mul_right _ hl2) z
end

/-! ### What a call may write: the blocks of S; all other old blocks are as they were. -/
structure Chg (S : Nat → Prop) (w w' : World) : Prop where
  os : w'.os = w.os
  tape : w'.tape = w.tape
  output : w'.output = w.output
  size : w.heap.size ≤ w'.heap.size
  block : ∀ i, i < w.heap.size → ¬ S i → w'.heap[i]? = w.heap[i]?
theorem Chg.refl (S : Nat → Prop) (w : World) : Chg S w w := ⟨rfl, rfl, rfl, Nat.le_refl _, fun _ _ _ => rfl⟩
theorem Chg.trans {S : Nat → Prop} {a b c : World} (h : Chg S a b) (k : Chg S b c) : Chg S a c :=
  ⟨k.os.trans h.os, k.tape.trans h.tape, k.output.trans h.output, Nat.le_trans h.size k.size, fun i hi hS => (k.block i (Nat.lt_of_lt_of_le hi h.size) hS).trans (h.block i hi hS)⟩
theorem Chg.mono {S S' : Nat → Prop} {a b : World} (h : Chg S a b) (hS : ∀ i, i < a.heap.size → S i → S' i) : Chg S' a b :=
  ⟨h.os, h.tape, h.output, h.size, fun i hi hn => h.block i hi fun h => hn (hS i hi h)⟩
theorem Chg.step {S S' : Nat → Prop} {a b c : World} (h : Chg S a b) (k : Chg S' b c) (hS : ∀ i, i < a.heap.size → S' i → S i) : Chg S a c :=
  ⟨k.os.trans h.os, k.tape.trans h.tape, k.output.trans h.output, Nat.le_trans h.size k.size, fun i hi hn => (k.block i (Nat.lt_of_lt_of_le hi h.size) fun h => hn (hS i hi h)).trans (h.block i hi hn)⟩
theorem Chg.alloc {S : Nat → Prop} {a w : World} (h : Chg S a w) (o : Obj) : Chg S a (w.alloc o) :=
  h.trans ⟨rfl, rfl, rfl, by simp, fun k hk _ => Below.heap_alloc _ _ _ hk⟩
theorem Chg.setCell {S : Nat → Prop} {a w : World} (h : Chg S a w) {p : Addr} (hp : S p.block) (u : Value) : Chg S a (w.setCell p u) :=
  h.trans ⟨rfl, rfl, rfl, by simp [World.setCell], fun k hk hn => Below.heap_setCell _ _ _ _ (fun e => hn (e ▸ hp))⟩
theorem Chg.drew {S : Nat → Prop} {a w : World} (h : Chg S a w) : Chg S a w.drew := ⟨h.os, h.tape, h.output, h.size, h.block⟩
theorem Chg.drewN {S : Nat → Prop} {a w : World} (h : Chg S a w) (n : Nat) : Chg S a (w.drewN n) := ⟨h.os, h.tape, h.output, h.size, h.block⟩
theorem Chg.grown {S : Nat → Prop} {a w w' : World} {row : Option Nat} (h : Chg S a w) (hg : w.grownBy w' row) (hr : ∀ k, row = some k → S k) : Chg S a w' :=
  h.trans ⟨hg.os, hg.tape, hg.output, hg.size, fun k hk hn => hg.block k hk (fun e => hn (hr k e.symm))⟩
theorem Chg.below {w w' : World} (h : Chg (fun i => w.heap.size ≤ i) w w') : Below w.heap.size w w' := ⟨h.os, h.tape, h.output, h.size, fun k hk => h.block k hk (by omega)⟩
theorem Chg.belowOf {S : Nat → Prop} {w w' : World} (h : Chg S w w') (hS : ∀ i, i < w.heap.size → ¬ S i) : Below w.heap.size w w' := ⟨h.os, h.tape, h.output, h.size, fun k hk => h.block k hk (hS k hk)⟩
theorem Below.chg {S : Nat → Prop} {w w' : World} (h : Below w.heap.size w w') : Chg S w w' := ⟨h.os, h.tape, h.output, h.size, fun i hi _ => h.block i hi⟩
theorem Chg.cell {S : Nat → Prop} {w w' : World} (h : Chg S w w') {a : Addr} {v : Value} (hc : w.cell? a = some v) (hS : ¬ S a.block) : w'.cell? a = some v := by
  rw [World.cell?_of_block (w := w) (h.block _ (World.block_lt_of_cell? w a hc) hS)]; exact hc
theorem Chg.at_ {S : Nat → Prop} {w w' : World} (h : Chg S w w') {i : Nat} {o : Obj} (hc : w.heap[i]? = some o) (hS : ¬ S i) : w'.heap[i]? = some o := by
  rw [h.block i (Array.getElem?_eq_some_iff.1 hc).1 hS]; exact hc
theorem Rd.chg {S : Nat → Prop} {w w' : World} {k : IntKind} {A : Option Addr} {n : Nat} {xs : List Int} (h : Rd w k A n xs) (hg : Chg S w w') (hne : ∀ ad, A = some ad → 0 < n → ¬ S ad.block) : Rd w' k A n xs :=
  h.keep fun ad e hn => by subst e; exact hg.block _ (h.lt hn) (hne ad rfl hn)
/-- A row of blocks of S. -/
structure Own (w : World) (S : Nat → Prop) (e : TypeId) (size : Nat) (v : Value) (n : Nat) (xs : List Value) : Prop where
  row : w.ownsRow 0 e size v n xs
  foot : ∀ k, v.ownBlock = some k → S k
theorem Own.chg {S S' : Nat → Prop} {w w' : World} {e : TypeId} {size n : Nat} {v : Value} {xs : List Value} (h : Own w S e size v n xs) (hg : Chg S' w w') (hd : ∀ i, S i → ¬ S' i) : Own w' S e size v n xs := by
  refine ⟨⟨h.row.1, ?_⟩, h.foot⟩
  rcases h.row.2 with h2 | ⟨g, cap, cur, rfl, hb, hh, h3⟩
  · exact .inl h2
  · exact .inr ⟨g, cap, cur, rfl, hb, hg.at_ hh (hd _ (h.foot g rfl)), h3⟩
theorem Own.keep {S : Nat → Prop} {w w' : World} {e : TypeId} {size n : Nat} {v : Value} {xs : List Value} (h : Own w S e size v n xs) (hg : ∀ g, v.ownBlock = some g → w'.heap[g]? = w.heap[g]?) : Own w' S e size v n xs := by
  refine ⟨⟨h.row.1, ?_⟩, h.foot⟩
  rcases h.row.2 with h2 | ⟨g, cap, cur, rfl, hb, hh, h3⟩
  · exact .inl h2
  · exact .inr ⟨g, cap, cur, rfl, hb, by rw [hg g rfl]; exact hh, h3⟩
theorem Own.mono {S S' : Nat → Prop} {w : World} {e : TypeId} {size n : Nat} {v : Value} {xs : List Value} (h : Own w S e size v n xs) (hS : ∀ i, i < w.heap.size → S i → S' i) : Own w S' e size v n xs :=
  ⟨h.row, fun k hk => hS k (h.row.lt k hk).2 (h.foot k hk)⟩
theorem Own.nil (w : World) (S : Nat → Prop) (e : TypeId) (size : Nat) : Own w S e size (.slice none 0 0) 0 [] := ⟨⟨by simp, .inl ⟨rfl, rfl⟩⟩, by simp [Value.ownBlock]⟩
theorem own_slice {w : World} {base n : Nat} {e : TypeId} {size : Nat} {v : Value} {xs : List Value} (h : w.ownsRow base e size v n xs) : ∃ A c, v = .slice A n c := by
  rcases h.2 with ⟨rfl, rfl⟩ | ⟨g, cap, cur, rfl, _⟩
  · exact ⟨none, 0, rfl⟩
  · exact ⟨_, cap, rfl⟩
/-- The row's block is one of the element's type: it is no block of another type. -/
theorem Own.ne {S : Nat → Prop} {w : World} {e : TypeId} {size n : Nat} {v : Value} {xs : List Value} (h : Own w S e size v n xs) {i : Nat} {c : Array Value} {e' : TypeId} {f : Nat × Nat} (hi : w.heap[i]? = some (.cells c e' f)) (hne : e ≠ e') : v.ownBlock ≠ some i := by
  intro hk
  rcases h.row.2 with ⟨rfl, _⟩ | ⟨g, cap, cur, rfl, _, hh, _⟩
  · simp [Value.ownBlock] at hk
  · simp [Value.ownBlock] at hk
    subst hk
    rw [hh] at hi
    injection hi with hi
    injection hi with _ h2
    exact hne h2

section
variable {P : Program}
/-- An append of what a slice reads, to a row of S. -/
theorem wpList_app {ops : Array Oper} {rest : List Oper} {o : Oper} {a : Act} {Q : Exit → Act → World → Prop} (w : World) (hgd : Region.wanted o (yielded ops a.tmps) = true) (s x : Operand) (t : TypeId)
    (ho : o.op = .call { callee := .builtin .append, args := #[s, x], argTypes := #[t, t] })
    (S : Nat → Prop) (e : TypeId) (k : IntKind) (bytes : Nat) (ht : P.underlying t = some (.slice e)) (hinfo : (P.info? e).map (fun i => (i.zero, i.size, i.bytes)) = some (some (.int k 0), 1, bytes)) (hb0 : 0 < bytes)
    (v : Value) (n : Nat) (xs : List Int) (hs : a.eval s = v) (hown : Own w S e 1 v n (nums k xs)) (A : Option Addr) (m c : Nat) (ys : List Int) (hx : a.eval x = .slice A m c) (hr : Rd w k A m ys)
    (hbytes : (n + m) * bytes ≤ 140737488355328) (hS : ∀ i, w.heap.size ≤ i → S i)
    (h : ∀ A' c' w', Own w' S e 1 (.slice A' (n + m) c') (n + m) (nums k (xs ++ ys)) → Chg (fun i => v.ownBlock = some i) w w' → wpList P ops Q rest (a.put o.dst (.slice A' (n + m) c')) w') : wpList P ops Q (o :: rest) a w :=
  wpList_append_rd w hgd s x t ho 0 e k bytes ht hinfo hb0 v n xs hs hown.row A m c ys hx hr hbytes (Nat.zero_le _) fun v' w' h1 h2 h3 => by
    obtain ⟨A', c', rfl⟩ := own_slice h1
    exact h A' c' w' ⟨h1, fun k hk => by
      rcases h3 with h3 | h3
      · exact hown.foot k (by rw [← h3]; exact hk)
      · rw [h3] at hk; cases hk; exact hS _ (Nat.le_refl _)⟩ ((Chg.refl _ _).grown h2 fun k hk => hk)
/-- An append of one number, laid in a block of its own just ahead. -/
theorem wpList_app1 {ops : Array Oper} {rest : List Oper} {o : Oper} {a : Act} {Q : Exit → Act → World → Prop} (w : World) (hgd : Region.wanted o (yielded ops a.tmps) = true) (s x : Operand) (t : TypeId)
    (ho : o.op = .call { callee := .builtin .append, args := #[s, x], argTypes := #[t, t] })
    (S : Nat → Prop) (e : TypeId) (k : IntKind) (bytes : Nat) (ht : P.underlying t = some (.slice e)) (hinfo : (P.info? e).map (fun i => (i.zero, i.size, i.bytes)) = some (some (.int k 0), 1, bytes)) (hb0 : 0 < bytes)
    (v : Value) (n : Nat) (xs : List Int) (hs : a.eval s = v) (hown : Own w S e 1 v n (nums k xs)) (y : Int) (hx : a.eval x = .slice (some ⟨w.heap.size, 0, none⟩) 1 1) (hy : (Lit.int k y).wf = true)
    (hbytes : (n + 1) * bytes ≤ 140737488355328) (hS : ∀ i, w.heap.size ≤ i → S i)
    (h : ∀ A' c' w', Own w' S e 1 (.slice A' (n + 1) c') (n + 1) (nums k (xs ++ [y])) → Chg (fun i => v.ownBlock = some i) w w' → wpList P ops Q rest (a.put o.dst (.slice A' (n + 1) c')) w') : wpList P ops Q (o :: rest) a (w.alloc (.cells #[.int k y] e)) :=
  wpList_app _ hgd s x t ho S e k bytes ht hinfo hb0 v n xs hs (hown.chg ((Chg.refl (fun _ => False) _).alloc _) (fun _ _ h => h)) _ 1 1 [y] hx
    (rd_new w k [y] _ e _ rfl (by simp) (by intro x hx; rw [List.mem_singleton.1 hx]; exact hy)) hbytes (fun i hi => hS i (by simp at hi; omega))
    fun A' c' w' h1 h2 => h A' c' w' h1 (((Chg.refl _ _).alloc _).step h2 fun _ _ h => h)
end
theorem Own.rd {w : World} {S : Nat → Prop} {e : TypeId} {k : IntKind} {A : Option Addr} {n c : Nat} {xs : List Int} (h : Own w S e 1 (.slice A n c) n (nums k xs)) (hw : ∀ x ∈ xs, (Lit.int k x).wf = true) : Rd w k A n xs := by
  obtain ⟨A', c', e', h'⟩ := own_rd h.row hw
  injection e' with e1 e2 e3
  subst e1
  exact h'
theorem rd_take {w : World} {k : IntKind} {A : Option Addr} {n : Nat} {xs : List Int} (h : Rd w k A n xs) {m : Nat} (hm : m ≤ n) : Rd w k A m (xs.take m) :=
  ⟨by simp [h.len]; omega, by have := h.room; omega, fun x hx => h.wf x (List.mem_of_mem_take hx), fun h0 => by
    obtain ⟨ad, e, hc⟩ := h.cell (by omega)
    exact ⟨ad, e, fun j hj => by rw [hc j (by omega), List.getD_eq_getElem?_getD, List.getD_eq_getElem?_getD, List.getElem?_take_of_lt hj]⟩⟩
theorem add_of_add (a : Addr) (i j : Nat) : (a.add i).add j = a.add (i + j) := by
  unfold Addr.add
  by_cases hi : i = 0 <;> by_cases hj : j = 0 <;> simp [hi, hj, Nat.add_assoc]
theorem add_add (a : Addr) (i j : Nat) (hj : 0 < i) : (a.add i).add j = a.add (i + j) := by
  unfold Addr.add
  rw [if_neg (by omega : ¬ i = 0), if_neg (by omega : ¬ i + j = 0)]
  split
  · rename_i h; subst h; rfl
  · simp [Nat.add_assoc]
theorem rd_drop {w : World} {k : IntKind} {ad : Addr} {n : Nat} {xs : List Int} (h : Rd w k (some ad) n xs) {m : Nat} (hm : m ≤ n) : Rd w k (some (ad.add m)) (n - m) (xs.drop m) :=
  ⟨by simp [h.len], by have := h.room; omega, fun x hx => h.wf x (List.mem_of_mem_drop hx), fun h0 => by
    obtain ⟨ad', e, hc⟩ := h.cell (by omega)
    cases e
    refine ⟨_, rfl, fun j hj => ?_⟩
    rcases Nat.eq_zero_or_pos m with h1 | h1
    · subst h1
      have : (ad.add 0) = ad := by simp [Addr.add]
      rw [this, hc j (by omega)]
      simp
    · rw [add_add _ _ _ h1, hc (m + j) (by omega), List.getD_eq_getElem?_getD, List.getD_eq_getElem?_getD, List.getElem?_drop]⟩
theorem rd_dropMap {w : World} {k : IntKind} {A : Option Addr} {n : Nat} {xs : List Int} (h : Rd w k A n xs) {m : Nat} (hm : m ≤ n) : Rd w k (A.map fun x => x.add m) (n - m) (xs.drop m) := by
  rcases A with _ | ad
  · have h0 : n = 0 := by
      rcases Nat.eq_zero_or_pos n with h0 | h0
      · exact h0
      · obtain ⟨ad, e, _⟩ := h.cell h0
        cases e
    have hl := h.len
    obtain rfl : xs = [] := List.eq_nil_of_length_eq_zero (by omega)
    subst h0
    exact ⟨by simp, by omega, by simp, fun h => by omega⟩
  · exact rd_drop h hm
theorem rd_nil (w : World) (k : IntKind) (A : Option Addr) : Rd w k A 0 [] := ⟨rfl, by omega, by simp, fun h => by omega⟩
theorem ret_int {k : IntKind} {a b : Int} (h : a = b) : Ending.returned (.int k a) = .returned (.int k b) := by rw [h]
theorem ret_bool {a b : Bool} (h : a = b) : Ending.returned (.bool a) = .returned (.bool b) := by rw [h]
theorem at_new (w : World) (o : Obj) : (w.alloc o).heap[w.heap.size]? = some o := by
  show (w.heap.push o)[w.heap.size]? = _
  simp
theorem below_new (w : World) (o : Obj) : Below w.heap.size w (w.alloc o) := (Below.refl _ _).alloc (Nat.le_refl _) o
/-- make([]T, m) of numbers. -/
theorem run_make_num {P : Program} (t e : TypeId) (k : IntKind) (bytes : Nat) (ht : P.underlying t = some (.slice e)) (hinfo : (P.info? e).map (fun i => (i.zero, i.size, i.bytes)) = some (some (.int k 0), 1, bytes)) (hb0 : 0 < bytes)
    (m : Nat) (hn : m * bytes ≤ 281474976710656) (W : World) :
    (Instr.makeSlice t (.int .i64 (m : Int)) (.int .i64 (m : Int))).run P W = .ok (.slice (some ⟨W.heap.size, 0, none⟩) m m) (W.alloc (.cells (madeCells #[.int k 0] m) e)) := by
  have hm : m ≤ 281474976710656 := Nat.le_trans (Nat.le_mul_of_pos_right _ hb0) hn
  exact run_make_row' t e (.int k 0) bytes ht hinfo rfl .i64 .i64 m (by rw [Nat.mul_comm]; exact hn) (by omega) W
theorem made_nums (k : IntKind) (m : Nat) : (madeCells #[Value.int k 0] m).toList = nums k (List.replicate m 0) := by
  apply List.ext_getElem
  · simp [nums, madeCells]
  · intro i h1 h2
    simp [nums, madeCells, Nat.mod_one]
theorem wf_zeros (k : IntKind) (hk : (Lit.int k 0).wf = true) (m : Nat) : ∀ x ∈ List.replicate m (0 : Int), (Lit.int k x).wf = true := by
  intro x hx
  rw [List.eq_of_mem_replicate hx]
  exact hk
theorem rd_made (W : World) (k : IntKind) (hk : (Lit.int k 0).wf = true) (e : TypeId) (m : Nat) (hm : m ≤ 9223372036854775807) : Rd (W.alloc (.cells (madeCells #[.int k 0] m) e)) k (some ⟨W.heap.size, 0, none⟩) m (List.replicate m 0) := by
  have h := rd_new W k (List.replicate m 0) (madeCells #[.int k 0] m) e (0, 0) (made_nums k m) (by simpa using hm) (wf_zeros k hk m)
  simpa using h
theorem run_convert_none {P : Program} (w : World) (src dst e : TypeId) (hs : P.underlying src = some (.slice e)) (he : P.underlying e = some (.int .u8)) (hd : P.underlying dst = some .string) (p : Option Addr) (c : Nat) :
    (convert src dst (.slice p 0 c)).run P w = .ok (.string ByteArray.empty) w := by
  rw [run_convert_bytes_string w src dst e _ 0 c hs he hd]
  cases p <;> simp [Conv.bytesToString, loadCells]
  all_goals rfl
/-- string(b) of bytes that a slice reads. -/
theorem run_string {P : Program} {w : World} {A : Option Addr} {n : Nat} {xs : List Int} (src dst e : TypeId) (c : Nat) (hs : P.underlying src = some (.slice e)) (he : P.underlying e = some (.int .u8)) (hd : P.underlying dst = some .string) (h : Rd w .u8 A n xs) :
    (convert src dst (.slice A n c)).run P w = .ok (.string (strOfNums xs)) w := by
  have hl := h.len
  rcases A with _ | ad
  · have h0 : n = 0 := by
      rcases Nat.eq_zero_or_pos n with h0 | h0
      · exact h0
      · obtain ⟨ad, e, _⟩ := h.cell h0
        cases e
    subst h0
    obtain rfl : xs = [] := List.eq_nil_of_length_eq_zero hl
    exact run_convert_bytes_nil w src e hs he 0 c dst hd
  · rcases Nat.eq_zero_or_pos n with h0 | h0
    · subst h0
      obtain rfl : xs = [] := List.eq_nil_of_length_eq_zero hl
      exact run_convert_none w src dst e hs he hd (some ad) c
    · obtain ⟨ad', e', hc⟩ := h.cell h0
      cases e'
      obtain ⟨b, off, sp⟩ := ad
      rcases sp with _ | sp
      · refine run_convert_bytes_arg w src e hs he b off n c xs hl (fun i hi => ?_) dst hd
        have h1 := hc i (by omega)
        have ha : (⟨b, off, none⟩ : Addr).add i = ⟨b, off + i, none⟩ := by unfold Addr.add; split <;> simp_all
        rwa [ha] at h1
      · have h1 := hc 0 h0
        simp [Addr.add, World.cell?] at h1
        split at h1 <;> simp_all
theorem Own.cap {w : World} {S : Nat → Prop} {e : TypeId} {size : Nat} {A : Option Addr} {n c : Nat} {xs : List Value} (h : Own w S e size (.slice A n c) n xs) : n ≤ c ∧ (A = none → c = 0) := by
  rcases h.row.2 with ⟨h2, h3⟩ | ⟨g, cap, cur, h2, _, _, h3, _⟩
  · cases h2
    exact ⟨by omega, fun _ => rfl⟩
  · cases h2
    exact ⟨h3, fun h => by cases h⟩
theorem Rd.drew {w : World} {k : IntKind} {A : Option Addr} {n : Nat} {xs : List Int} (h : Rd w k A n xs) : Rd w.drew k A n xs := h.below (Below.refl _ _).drew
/-! ### Worlds in which nothing that was there has turned. -/
def Ext (w w' : World) : Prop := Below w.heap.size w w'
theorem Ext.refl (w : World) : Ext w w := Below.refl _ _
theorem Ext.trans {a b c : World} (h : Ext a b) (k : Ext b c) : Ext a c := Below.trans h (Below.mono k h.size)
theorem Ext.new (w : World) (o : Obj) : Ext w (w.alloc o) := below_new w o
theorem Ext.drew {a b : World} (h : Ext a b) : Ext a b.drew := Below.drew h
theorem Ext.drewN {a b : World} (h : Ext a b) (n : Nat) : Ext a (b.drewN n) := ⟨h.os, h.tape, h.output, h.size, h.block⟩
theorem Ext.alloc {a b : World} (h : Ext a b) (o : Obj) : Ext a (b.alloc o) := h.trans (Ext.new b o)
theorem Ext.setCell {a b : World} (h : Ext a b) {p : Addr} (hp : a.heap.size ≤ p.block) (u : Value) : Ext a (b.setCell p u) := Below.setCell h hp u
theorem Ext.chg {S : Nat → Prop} {a b c : World} (h : Ext a b) (k : Chg S b c) (hS : ∀ i, S i → a.heap.size ≤ i) : Ext a c :=
  ⟨k.os.trans h.os, k.tape.trans h.tape, k.output.trans h.output, Nat.le_trans h.size k.size, fun i hi => (k.block i (Nat.lt_of_lt_of_le hi h.size) fun hs => by have := hS i hs; omega).trans (h.block i hi)⟩
theorem Ext.ofChg {S : Nat → Prop} {a c : World} (k : Chg S a c) (hS : ∀ i, S i → a.heap.size ≤ i) : Ext a c := (Ext.refl a).chg k hS
theorem Ext.lt {a b : World} (h : Ext a b) {i : Nat} (hi : i < a.heap.size) : i < b.heap.size := Nat.lt_of_lt_of_le hi h.size
theorem Rd.ext {w w' : World} {k : IntKind} {A : Option Addr} {n : Nat} {xs : List Int} (h : Rd w k A n xs) (hb : Ext w w') : Rd w' k A n xs := h.below hb
theorem Ext.at_ {w w' : World} (h : Ext w w') {i : Nat} {o : Obj} (hc : w.heap[i]? = some o) : w'.heap[i]? = some o := by
  rw [h.block i (Array.getElem?_eq_some_iff.1 hc).1]; exact hc
theorem Ext.cell_ {w w' : World} (h : Ext w w') {a : Addr} {v : Value} (hc : w.cell? a = some v) : w'.cell? a = some v := by
  rw [World.cell?_of_block (w := w) (h.block _ (World.block_lt_of_cell? w a hc))]; exact hc
/-- A row of blocks that are newer than w0. -/
abbrev New (w0 w : World) (e : TypeId) (size : Nat) (A : Option Addr) (n c : Nat) (xs : List Value) : Prop := Own w (fun i => w0.heap.size ≤ i) e size (.slice A n c) n xs
theorem Own.extNew {w w' : World} {S : Nat → Prop} {e : TypeId} {size n : Nat} {v : Value} {xs : List Value} (h : Own w S e size v n xs) (hb : Ext w w') : Own w' S e size v n xs :=
  h.keep fun g hg => hb.block g (h.row.lt g hg).2
section
variable {P : Program}
/-- append([]T{}, ys...): a row of its own. -/
theorem wpList_clone {ops : Array Oper} {rest : List Oper} {o : Oper} {a : Act} {Q : Exit → Act → World → Prop} (w : World) (hgd : Region.wanted o (yielded ops a.tmps) = true) (s x : Operand) (t : TypeId)
    (ho : o.op = .call { callee := .builtin .append, args := #[s, x], argTypes := #[t, t] })
    (e : TypeId) (k : IntKind) (bytes : Nat) (ht : P.underlying t = some (.slice e)) (hinfo : (P.info? e).map (fun i => (i.zero, i.size, i.bytes)) = some (some (.int k 0), 1, bytes)) (hb0 : 0 < bytes)
    (hs : a.eval s = .slice (some ⟨w.heap.size, 0, none⟩) 0 0) (A : Option Addr) (m c : Nat) (ys : List Int) (hx : a.eval x = .slice A m c) (hr : Rd w k A m ys)
    (hbytes : m * bytes ≤ 140737488355328)
    (h : ∀ A' c' w', New w w' e 1 A' m c' (nums k ys) → Ext w w' → wpList P ops Q rest (a.put o.dst (.slice A' m c')) w') : wpList P ops Q (o :: rest) a (w.alloc (.cells #[] e)) :=
  wpList_app _ hgd s x t ho (fun i => w.heap.size ≤ i) e k bytes ht hinfo hb0 _ 0 [] hs
    ⟨World.ownsRow_lit w #[] 0 (Nat.zero_le _) (by simp only [maxLen]; omega) rfl, by simp [Value.ownBlock]⟩ A m c ys hx (hr.below (below_new _ _)) (by simpa using hbytes) (fun _ hi => by simp at hi; omega)
    fun A' c' w' h1 h2 => by
      simp only [Nat.zero_add, List.nil_append] at h1 ⊢
      exact h A' c' w' h1 ((Ext.new w _).chg h2 fun _ hi => by simp [Value.ownBlock] at hi; omega)
/-- append(v, ys...): v is newer than w0. -/
theorem wpList_more {ops : Array Oper} {rest : List Oper} {o : Oper} {a : Act} {Q : Exit → Act → World → Prop} (w0 w : World) (hgd : Region.wanted o (yielded ops a.tmps) = true) (s x : Operand) (t : TypeId)
    (ho : o.op = .call { callee := .builtin .append, args := #[s, x], argTypes := #[t, t] })
    (e : TypeId) (k : IntKind) (bytes : Nat) (ht : P.underlying t = some (.slice e)) (hinfo : (P.info? e).map (fun i => (i.zero, i.size, i.bytes)) = some (some (.int k 0), 1, bytes)) (hb0 : 0 < bytes)
    (v : Value) (n : Nat) (xs : List Int) (hs : a.eval s = v) (hown : Own w (fun i => w0.heap.size ≤ i) e 1 v n (nums k xs)) (hE : Ext w0 w) (A : Option Addr) (m c : Nat) (ys : List Int) (hx : a.eval x = .slice A m c) (hr : Rd w k A m ys)
    (hbytes : (n + m) * bytes ≤ 140737488355328)
    (h : ∀ A' c' w', New w0 w' e 1 A' (n + m) c' (nums k (xs ++ ys)) → Ext w0 w' → wpList P ops Q rest (a.put o.dst (.slice A' (n + m) c')) w') : wpList P ops Q (o :: rest) a w :=
  wpList_app _ hgd s x t ho (fun i => w0.heap.size ≤ i) e k bytes ht hinfo hb0 v n xs hs hown A m c ys hx hr hbytes (fun _ hi => Nat.le_trans hE.size hi)
    fun A' c' w' h1 h2 => h A' c' w' h1 (hE.chg h2 fun i hi => hown.foot i hi)
/-- append(v, y): v is newer than w0. -/
theorem wpList_more1 {ops : Array Oper} {rest : List Oper} {o : Oper} {a : Act} {Q : Exit → Act → World → Prop} (w0 w : World) (hgd : Region.wanted o (yielded ops a.tmps) = true) (s x : Operand) (t : TypeId)
    (ho : o.op = .call { callee := .builtin .append, args := #[s, x], argTypes := #[t, t] })
    (e : TypeId) (k : IntKind) (bytes : Nat) (ht : P.underlying t = some (.slice e)) (hinfo : (P.info? e).map (fun i => (i.zero, i.size, i.bytes)) = some (some (.int k 0), 1, bytes)) (hb0 : 0 < bytes)
    (v : Value) (n : Nat) (xs : List Int) (hs : a.eval s = v) (hown : Own w (fun i => w0.heap.size ≤ i) e 1 v n (nums k xs)) (hE : Ext w0 w) (y : Int) (hx : a.eval x = .slice (some ⟨w.heap.size, 0, none⟩) 1 1) (hy : (Lit.int k y).wf = true)
    (hbytes : (n + 1) * bytes ≤ 140737488355328)
    (h : ∀ A' c' w', New w0 w' e 1 A' (n + 1) c' (nums k (xs ++ [y])) → Ext w0 w' → wpList P ops Q rest (a.put o.dst (.slice A' (n + 1) c')) w') : wpList P ops Q (o :: rest) a (w.alloc (.cells #[.int k y] e)) :=
  wpList_app1 w hgd s x t ho (fun i => w0.heap.size ≤ i) e k bytes ht hinfo hb0 v n xs hs hown y hx hy hbytes (fun _ hi => Nat.le_trans hE.size hi)
    fun A' c' w' h1 h2 => h A' c' w' h1 (hE.chg h2 fun i hi => hown.foot i hi)
end
/-! ### Rows of whatever cells; appends inside a region that draws its order. -/
/-- A slice's cells read so. -/
def RdV (w : World) (A : Option Addr) (vs : List Value) : Prop := vs ≠ [] → ∃ ad, A = some ad ∧ ∀ j u, vs[j]? = some u → w.cell? (ad.add j) = some u
theorem RdV.ext {w w' : World} {A : Option Addr} {vs : List Value} (h : RdV w A vs) (he : Ext w w') : RdV w' A vs := fun hn => by
  obtain ⟨ad, e, hc⟩ := h hn
  exact ⟨ad, e, fun j u hu => he.cell_ (hc j u hu)⟩
theorem Own.rdv {w : World} {S : Nat → Prop} {e : TypeId} {size n : Nat} {A : Option Addr} {c : Nat} {vs : List Value} (h : Own w S e size (.slice A n c) n vs) : RdV w A vs := fun hn => by
  have hl := h.row.1
  rcases Nat.eq_zero_or_pos n with h0 | h0
  · subst h0
    simp at hl
    exact absurd hl hn
  · obtain ⟨g, cap, hv, _, _⟩ := h.row.form h0
    have hA : A = some ⟨g, 0, none⟩ := by injection hv
    subst hA
    exact ⟨_, rfl, fun j u hu => h.row.cells (g := g) rfl j u hu⟩
theorem own_empty {w : World} {S : Nat → Prop} {e : TypeId} {g : Nat} {size : Nat} (h : w.heap[g]? = some (.cells #[] e (0, 0))) (hS : S g) : Own w S e size (.slice (some ⟨g, 0, none⟩) 0 0) 0 [] :=
  ⟨⟨by simp, .inr ⟨g, 0, #[], rfl, Nat.zero_le _, h, Nat.le_refl _, by simp only [maxLen]; omega, by simp, by simp⟩⟩, fun k hk => by simp [Value.ownBlock] at hk; subst hk; exact hS⟩
section
variable {P : Program}
/-- append(v, E{..}): v is newer than w0. -/
theorem wpList_moreE {ops : Array Oper} {rest : List Oper} {o : Oper} {a : Act} {Q : Exit → Act → World → Prop} (w0 w : World) (hgd : Region.wanted o (yielded ops a.tmps) = true) (s x : Operand) (t : TypeId)
    (ho : o.op = .call { callee := .builtin .append, args := #[s, x], argTypes := #[t, t] })
    (e : TypeId) (z : Value) (size bytes : Nat) (ht : P.underlying t = some (.slice e)) (hinfo : (P.info? e).map (fun i => (i.zero, i.size, i.bytes)) = some (some z, size, bytes)) (hzs : z.cells.size = size) (hsz : 0 < size) (hb0 : 0 < bytes)
    (v : Value) (n : Nat) (xs : List Value) (hs : a.eval s = v) (hown : Own w (fun i => w0.heap.size ≤ i) e size v n xs) (hE : Ext w0 w) (vs : List Value) (hl : vs.length = size) (h1 : ∀ u ∈ vs, u.oneCell' = true) (hx : a.eval x = .slice (some ⟨w.heap.size, 0, none⟩) 1 1)
    (hbytes : (n + 1) * bytes ≤ 140737488355328)
    (h : ∀ A' c' w', New w0 w' e size A' (n + 1) c' (xs ++ vs) → Ext w0 w' → Chg (fun i => v.ownBlock = some i) w w' → wpList P ops Q rest (a.put o.dst (.slice A' (n + 1) c')) w') : wpList P ops Q (o :: rest) a (w.alloc (.cells vs.toArray e)) := by
  refine wpList_step fun K hK => ?_
  rw [if_pos hgd]
  obtain ⟨i, hi, hz, hsize, hby⟩ := info_parts hinfo
  have hlen : n + 1 ≤ 140737488355328 := Nat.le_trans (Nat.le_mul_of_pos_right _ hb0) hbytes
  have hown' : Own (w.alloc (.cells vs.toArray e)) (fun i => w0.heap.size ≤ i) e size v n xs := hown.extNew (Ext.new _ _)
  obtain ⟨v', w', hrun, h2, h3, _, h5⟩ := run_append_own_at (P := P) (w.alloc (.cells vs.toArray e)) 0 t o.type e i z size bytes ht hi hz hsize hby hzs hsz v n xs hown'.row ⟨w.heap.size, 0, none⟩ 1 1 vs (by simp [hl])
    (fun j u hu => World.news_of_block (at_new w _) j u hu) h1 (by simp only [maxLen]; omega) hbytes (Nat.zero_le _)
  obtain ⟨A', c', rfl⟩ := own_slice h2
  unfold Oper.wp execOp
  simp only [ho, resolve, invoke, builtin, Sem.run_bind, Sem.run_pure, Result.andThen_ok, List.map_toArray, List.map_cons, List.map_nil, hs, hx, hrun]
  have hf : ∀ k, (Value.slice A' (n + 1) c').ownBlock = some k → w0.heap.size ≤ k := fun k hk => by
    rcases h5 with h5 | h5
    · exact hown.foot k (by rw [← h5]; exact hk)
    · rw [h5] at hk
      cases hk
      exact Nat.le_trans hE.size (Nat.le_trans (Nat.le_refl _) (by simp))
  refine hK _ _ (h A' c' w' ⟨h2, hf⟩ ((hE.alloc _).chg ((Chg.refl _ _).grown h3 fun k hk => hk) fun i hi => hown.foot i hi) (((Chg.refl _ _).alloc _).grown h3 fun k hk => hk))
/-- A slice's block is none of a row of e's that is newer than w0. -/
def Apt (w0 : World) (e : TypeId) (w : World) (A : Option Addr) (n : Nat) : Prop := 0 < n → ∀ ad, A = some ad → ad.block < w0.heap.size ∨ ∃ c f e', e' ≠ e ∧ w.heap[ad.block]? = some (.cells c e' f)
theorem Apt.chg {w0 w w' : World} {e : TypeId} {A : Option Addr} {n : Nat} {S : Nat → Prop} (h : Apt w0 e w A n) (hg : Chg S w w') (hS : ∀ ad, A = some ad → 0 < n → ¬ S ad.block) : Apt w0 e w' A n := fun h0 ad ha =>
  (h h0 ad ha).imp id fun ⟨c, f, e', hne, hh⟩ => ⟨c, f, e', hne, hg.at_ hh (hS ad ha h0)⟩
theorem Apt.ext {w0 w w' : World} {e : TypeId} {A : Option Addr} {n : Nat} (h : Apt w0 e w A n) (he : Ext w w') : Apt w0 e w' A n := fun h0 ad ha =>
  (h h0 ad ha).imp id fun ⟨c, f, e', hne, hh⟩ => ⟨c, f, e', hne, he.at_ hh⟩
theorem Apt.ne {w0 w : World} {e : TypeId} {A : Option Addr} {n : Nat} (h : Apt w0 e w A n) {size m : Nat} {v : Value} {xs : List Value} (ho : Own w (fun i => w0.heap.size ≤ i) e size v m xs) : ∀ ad, A = some ad → 0 < n → ¬ v.ownBlock = some ad.block := by
  intro ad ha h0 hb
  rcases h h0 ad ha with h1 | ⟨c, f, e', hne, hh⟩
  · have := ho.foot _ hb
    omega
  · exact ho.ne hh hne.symm hb
theorem Apt.own {w0 w : World} {S : Nat → Prop} {e e' : TypeId} {size n c : Nat} {A : Option Addr} {xs : List Value} (h : Own w S e' size (.slice A n c) n xs) (hne : e' ≠ e) : Apt w0 e w A n := fun h0 ad ha => by
  obtain ⟨g, cap, hv, hh, _⟩ := h.row.form h0
  rcases h.row.2 with ⟨h2, _⟩ | ⟨g', cap', cur, h2, _, hb, _⟩
  · cases h2; omega
  · cases h2
    cases ha
    exact .inr ⟨_, _, e', hne, hb⟩
theorem Apt.old {w0 w : World} {e : TypeId} {A : Option Addr} {n : Nat} (h : ∀ ad, A = some ad → 0 < n → ad.block < w0.heap.size) : Apt w0 e w A n := fun h0 ad ha => .inl (h ad ha h0)
/-- At a step of a region that draws: append(v, ys...), v newer than w0. -/
theorem step_more {ops : Array Oper} {o : Oper} {a : Act} {K : Act → World → Prop} {Q : Exit → Act → World → Prop} {E : Prop} (w0 w : World) (hgd : o.guard = none) (s x : Operand) (t : TypeId)
    (ho : o.op = .call { callee := .builtin .append, args := #[s, x], argTypes := #[t, t] })
    (e : TypeId) (k : IntKind) (bytes : Nat) (ht : P.underlying t = some (.slice e)) (hinfo : (P.info? e).map (fun i => (i.zero, i.size, i.bytes)) = some (some (.int k 0), 1, bytes)) (hb0 : 0 < bytes)
    (v : Value) (n : Nat) (xs : List Int) (hs : a.eval s = v) (hown : Own w (fun i => w0.heap.size ≤ i) e 1 v n (nums k xs)) (hE : Ext w0 w) (A : Option Addr) (m c : Nat) (ys : List Int) (hx : a.eval x = .slice A m c) (hr : Rd w k A m ys)
    (hbytes : (n + m) * bytes ≤ 140737488355328)
    (h : ∀ A' c' w', New w0 w' e 1 A' (n + m) c' (nums k (xs ++ ys)) → Ext w0 w' → K (a.put o.dst (.slice A' (n + m) c')) w') :
    if Region.wanted o (yielded ops a.tmps) = true then Oper.wp P o a w K Q else E := by
  have hw : Region.wanted o (yielded ops a.tmps) = true := by simp [Region.wanted, hgd]
  rw [if_pos hw]
  obtain ⟨v', w', hrun, h2, h3, h4⟩ := run_append_rd (P := P) w 0 t o.type e k bytes ht hinfo hb0 v n xs hown.row A m c ys hr hbytes (Nat.zero_le _)
  obtain ⟨A', c', rfl⟩ := own_slice h2
  unfold Oper.wp execOp
  simp only [ho, resolve, invoke, builtin, Sem.run_bind, Sem.run_pure, Result.andThen_ok, List.map_toArray, List.map_cons, List.map_nil, hs, hx, hrun]
  refine h A' c' w' ⟨h2, fun k hk => ?_⟩ (hE.chg ((Chg.refl _ _).grown h3 fun k hk => hk) fun i hi => hown.foot i hi)
  rcases h4 with h4 | h4
  · exact hown.foot k (by rw [← h4]; exact hk)
  · rw [h4] at hk; cases hk; exact hE.size
end
theorem wrap_u8 {x : Int} (h0 : 0 ≤ x) (h1 : x < 256) : IntKind.u8.wrap x = x := by simp [IntKind.wrap, IntKind.bits, IntKind.signed]; omega
theorem wrap_u16 {x : Int} (h0 : 0 ≤ x) (h1 : x < 65536) : IntKind.u16.wrap x = x := by simp [IntKind.wrap, IntKind.bits, IntKind.signed]; omega
theorem wrap_u32 {x : Int} (h0 : 0 ≤ x) (h1 : x < 4294967296) : IntKind.u32.wrap x = x := by simp [IntKind.wrap, IntKind.bits, IntKind.signed]; omega
theorem wrap_u64 {x : Int} (h0 : 0 ≤ x) (h1 : x < 18446744073709551616) : IntKind.u64.wrap x = x := by simp [IntKind.wrap, IntKind.bits, IntKind.signed]; omega
/-- A scope in which the run jumps back to one label: the pass is walked once. -/
theorem wp_scope_jumps2 {P : Program} {a : Act} {w : World} {Q : Exit → Act → World → Prop} {c rest : Code} (l : Nat) (J : Act → World → Prop) (μ : Act → World → Nat) (hf : findLabel c l = some (.seq .skip rest))
    (pass : ∀ a w, J a w → rest.wp P (Exit.jump l (fun a' w' => J a' w' ∧ μ a' w' < μ a w) Q) a w)
    (first : (∀ a w, J a w → rest.wp P (Exit.jump l J Q) a w) → c.wp P (Exit.jump l J Q) a w) : (Code.scope c).wp P Q a w :=
  wp_scope_jumps l J μ hf (first fun a w h => wp_mono (pass a w h) fun e a' w' h' => by
    cases e with
    | goto l' => exact ⟨h'.1, h'.2.1⟩
    | _ => exact h') fun a w h => wp_seq (wp_skip (pass a w h))
theorem get_flat {α : Type} (f : α → List Value) (size : Nat) (hf : ∀ r, (f r).length = size) : ∀ (l : List α) (i k : Nat) (r : α), l[i]? = some r → k < size → (l.flatMap f)[i * size + k]? = (f r)[k]?
  | [], _, _, _, h, _ => by cases h
  | x :: l, 0, k, r, h, hk => by
    simp at h
    subst h
    rw [List.flatMap_cons, Nat.zero_mul, Nat.zero_add, List.getElem?_append_left (by rw [hf]; exact hk)]
  | x :: l, i + 1, k, r, h, hk => by
    rw [List.flatMap_cons, List.getElem?_append_right (by rw [hf, Nat.succ_mul]; omega), hf, show (i + 1) * size + k - size = i * size + k by rw [Nat.succ_mul]; omega]
    exact get_flat f size hf l i k r (by simpa using h) hk
end Go.Proofs.Ytipmkddcdnbihaa.Base
