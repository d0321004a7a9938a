/- Texts put together: Le, Base, Pack, Lex, Step, TapeP, Tape. Contracts and plain facts, no condition but what each says. -/
import Derived.WalkKit
import Derived.KernelRfl
import Derived.Lib.Hide
import Derived.Maps.AppendAt
import Derived.Deep.AppendLies
import Derived.OwnWalk
import Derived.ScopeJumps
import Derived.WalkMore
import Derived.Deep.Draws
import Derived.Deep.OwnRows
import Derived.Laws.BytesArg
import Derived.SizedLaws
import Derived.ChangeSlices
import Derived.OpenShut
import Derived.Test.YtipmkddcdnbihaaProg
import Derived.Still
import Derived.StillTail
import Derived.Below
import Derived.Deep.RegionHeld
import Derived.WalkSpells
import Derived.Outline
/- Plain facts about numbers in bytes, the least first. No program in sight. -/
namespace Go.Proofs.Ytipmkddcdnbihaa.Le
/-- A number's bytes, so many. -/
def le : Nat → Int → List Int
  | 0, _ => []
  | k + 1, n => (n % 256) :: le k (n / 256)
/-- The number of bytes. -/
def of : List Int → Int
  | [] => 0
  | c :: l => c + 256 * of l
def U8s (l : List Int) : Prop := ∀ x ∈ l, 0 ≤ x ∧ x < 256
theorem le_length (k : Nat) : ∀ n, (le k n).length = k := by
  induction k with
  | zero => intro n; rfl
  | succ k ih => intro n; simp [le, ih]
theorem le_u8 (k : Nat) : ∀ n, U8s (le k n) := by
  induction k with
  | zero => intro n x h; simp [le] at h
  | succ k ih =>
    intro n x h
    simp only [le, List.mem_cons] at h
    rcases h with rfl | h
    · omega
    · exact ih _ x h
theorem le_snoc (k : Nat) : ∀ n, le (k + 1) n = le k n ++ [n / 256 ^ k % 256] := by
  induction k with
  | zero => intro n; simp [le]
  | succ k ih =>
    intro n
    rw [le, ih]
    simp only [le, List.cons_append, List.cons.injEq, true_and]
    rw [Int.ediv_ediv_of_nonneg (by omega)]
    congr 3
    rw [Int.pow_succ, Int.mul_comm]
theorem of_bound (l : List Int) (h : U8s l) : 0 ≤ of l ∧ of l < 256 ^ l.length := by
  induction l with
  | nil => simp [of]
  | cons c l ih =>
    have h1 := ih fun x hx => h x (List.mem_cons_of_mem _ hx)
    have h2 := h c List.mem_cons_self
    simp only [of, List.length_cons, Int.pow_succ]
    omega
theorem of_le (k : Nat) : ∀ n, 0 ≤ n → of (le k n) = n % 256 ^ k := by
  induction k with
  | zero => intro n h; simp [le, of]
  | succ k ih =>
    intro n h
    simp only [le, of]
    rw [ih _ (by omega), Int.pow_succ, Int.mul_comm (256 ^ k) 256]
    have h3 := Int.emod_add_mul_ediv n (256 * 256 ^ k)
    rw [← Int.ediv_ediv_of_nonneg (show (0 : Int) ≤ 256 by omega)] at h3
    have h1 := Int.emod_add_mul_ediv (n / 256) (256 ^ k)
    have h2 := Int.emod_add_mul_ediv n 256
    rw [Int.mul_assoc] at h3
    omega
theorem of_le_lt (k : Nat) (n : Int) (h0 : 0 ≤ n) (h1 : n < 256 ^ k) : of (le k n) = n := by
  rw [of_le k n h0, Int.emod_eq_of_lt h0 h1]
theorem le_of (l : List Int) (h : U8s l) : le l.length (of l) = l := by
  induction l with
  | nil => rfl
  | cons c l ih =>
    have h2 := h c List.mem_cons_self
    simp only [List.length_cons, le, of]
    have e1 : (c + 256 * of l) % 256 = c := by omega
    have e2 : (c + 256 * of l) / 256 = of l := by omega
    rw [e1, e2, ih fun x hx => h x (List.mem_cons_of_mem _ hx)]
theorem of_append (a b : List Int) : of (a ++ b) = of a + 256 ^ a.length * of b := by
  induction a with
  | nil => simp [of]
  | cons c a ih => simp only [List.cons_append, of, ih, List.length_cons, Int.pow_succ]; rw [Int.mul_add, Int.mul_comm (256 ^ a.length) 256, Int.mul_assoc]; omega
theorem of_snoc (a : List Int) (c : Int) : of (a ++ [c]) = of a + 256 ^ a.length * c := by rw [of_append]; simp [of]
theorem or_step (j : Nat) (hj : j < 8) (a c : Int) (h0 : 0 ≤ a) (h1 : a < 256 ^ j) (hc0 : 0 ≤ c) (hc1 : c < 256) : Go.bits .or .u64 a (IntKind.u64.wrap (c * 2 ^ (8 * j))) = a + 256 ^ j * c := by
  obtain ⟨a, rfl⟩ := Int.eq_ofNat_of_zero_le h0
  obtain ⟨c, rfl⟩ := Int.eq_ofNat_of_zero_le hc0
  have e2 : (2 : Nat) ^ (8 * j) = 256 ^ j := by rw [Nat.pow_mul]
  have hp : (256 : Nat) ^ j ≤ 256 ^ 7 := Nat.pow_le_pow_right (by omega) (by omega)
  have ha : a < 256 ^ j := by
    have : ((a : Nat) : Int) < ((256 ^ j : Nat) : Int) := by simpa using h1
    exact Int.ofNat_lt.1 this
  have hc : c ≤ 255 := by omega
  have hb : c * 256 ^ j ≤ 255 * 256 ^ 7 := Nat.mul_le_mul hc hp
  have e3 : ((c : Int) * 2 ^ (8 * j)) = ((c * 256 ^ j : Nat) : Int) := by rw [← e2]; simp
  have hw : IntKind.u64.wrap ((c * 256 ^ j : Nat) : Int) = ((c * 256 ^ j : Nat) : Int) := by
    simp only [IntKind.wrap, IntKind.bits, IntKind.signed]
    simp only [Bool.false_and, Bool.false_eq_true, if_false]
    omega
  rw [e3, hw, u64_or_nat a (c * 256 ^ j) (by omega) (by omega), Nat.or_comm, nat_join (8 * j) (c * 256 ^ j) a (by rw [e2]; exact Nat.mul_mod_left _ _) (by rw [e2]; exact ha)]
  simp
  rw [Int.mul_comm]; omega
theorem of_take_bound {l : List Int} {n : Nat} (h : U8s l) (hl : l.length = n) {j : Nat} (hj : j ≤ n) : 0 ≤ of (l.take j) ∧ of (l.take j) < 256 ^ j := by
  have := of_bound (l.take j) fun x hx => h x (List.mem_of_mem_take hx)
  rwa [List.length_take, Nat.min_eq_left (by omega)] at this
end Go.Proofs.Ytipmkddcdnbihaa.Le
/- Words that all walks share: how slices read, and what a call leaves as it was. No program in sight. -/
namespace Go.Proofs.Ytipmkddcdnbihaa.Base
open Go.RowKit

/-- A slice of numbers reads so. -/
structure Rd (w : World) (k : IntKind) (A : Option Addr) (n : Nat) (xs : List Int) : Prop where
  len : xs.length = n
  room : n ≤ 9223372036854775807
  wf : ∀ x ∈ xs, (Lit.int k x).wf = true
  cell : 0 < n → ∃ ad, A = some ad ∧ ∀ j, j < n → w.cell? (ad.add j) = some (.int k (xs.getD j 0))

theorem getD_mem {xs : List Int} {j : Nat} (h : j < xs.length) : xs.getD j 0 ∈ xs := by
  rw [List.getD_eq_getElem?_getD, List.getElem?_eq_getElem h]; simp
theorem wf_u8 {x : Int} (h : (Lit.int .u8 x).wf = true) : 0 ≤ x ∧ x < 256 := by
  simp [Lit.wf, IntKind.min, IntKind.max, IntKind.bits, IntKind.signed] at h
  omega
theorem wf_u16 {x : Int} (h : (Lit.int .u16 x).wf = true) : 0 ≤ x ∧ x < 65536 := by
  simp [Lit.wf, IntKind.min, IntKind.max, IntKind.bits, IntKind.signed] at h
  omega
theorem wf_u32 {x : Int} (h : (Lit.int .u32 x).wf = true) : 0 ≤ x ∧ x < 4294967296 := by
  simp [Lit.wf, IntKind.min, IntKind.max, IntKind.bits, IntKind.signed] at h
  omega
theorem wf_u64 {x : Int} (h : (Lit.int .u64 x).wf = true) : 0 ≤ x ∧ x < 18446744073709551616 := by
  simp [Lit.wf, IntKind.min, IntKind.max, IntKind.bits, IntKind.signed] at h
  omega
theorem wf_i64 {x : Int} (h : (Lit.int .i64 x).wf = true) : -9223372036854775808 ≤ x ∧ x ≤ 9223372036854775807 := by
  simp [Lit.wf, IntKind.min, IntKind.max, IntKind.bits, IntKind.signed] at h
  omega
theorem u8_wf {x : Int} (h0 : 0 ≤ x) (h1 : x < 256) : (Lit.int .u8 x).wf = true := by
  simp [Lit.wf, IntKind.min, IntKind.max, IntKind.bits, IntKind.signed]
  omega

theorem Rd.at_ {w : World} {k : IntKind} {A : Option Addr} {n : Nat} {xs : List Int} (h : Rd w k A n xs) {j : Nat} (hj : j < n) : ∃ ad, A = some ad ∧ w.cell? (ad.add j) = some (.int k (xs.getD j 0)) := by
  obtain ⟨ad, e, hc⟩ := h.cell (by omega)
  exact ⟨ad, e, hc j hj⟩
theorem Rd.wfAt {w : World} {k : IntKind} {A : Option Addr} {n : Nat} {xs : List Int} (h : Rd w k A n xs) {j : Nat} (hj : j < n) : (Lit.int k (xs.getD j 0)).wf = true :=
  h.wf _ (getD_mem (by rw [h.len]; exact hj))
theorem Rd.lt {w : World} {k : IntKind} {ad : Addr} {n : Nat} {xs : List Int} (h : Rd w k (some ad) n xs) (hn : 0 < n) : ad.block < w.heap.size := by
  obtain ⟨a, e, hc⟩ := h.cell hn
  cases e
  have := World.block_lt_of_cell? w _ (hc 0 hn)
  simpa [Addr.add] using this
theorem block_add (a : Addr) (j : Nat) : (a.add j).block = a.block := by unfold Addr.add; split <;> rfl
/-- What reads so reads so in every world in which its block is as it was. -/
theorem Rd.keep {w w' : World} {k : IntKind} {A : Option Addr} {n : Nat} {xs : List Int} (h : Rd w k A n xs) (hb : ∀ ad, A = some ad → 0 < n → w'.heap[ad.block]? = w.heap[ad.block]?) : Rd w' k A n xs :=
  ⟨h.len, h.room, h.wf, fun hn => by
    obtain ⟨ad, e, hc⟩ := h.cell hn
    exact ⟨ad, e, fun j hj => by rw [World.cell?_of_block (w := w) (by rw [block_add]; exact hb ad e hn)]; exact hc j hj⟩⟩
theorem Rd.below {w w' : World} {k : IntKind} {A : Option Addr} {n : Nat} {xs : List Int} (h : Rd w k A n xs) (hb : Below w.heap.size w w') : Rd w' k A n xs :=
  h.keep fun ad e hn => by subst e; exact hb.block _ (h.lt hn)

theorem take_next {xs : List Int} {n k : Nat} {c : Int} (hl : xs.length = n) (hk : k < n) (hc : xs.getD k 0 = c) : xs.take (k + 1) = xs.take k ++ [c] := by
  rw [List.take_succ_eq_append_getElem (by rw [hl]; exact hk), ← hc, List.getD_eq_getElem?_getD, List.getElem?_eq_getElem (by rw [hl]; exact hk)]; rfl

def nums (k : IntKind) (xs : List Int) : List Value := xs.map fun x => .int k x
theorem nums_length (k : IntKind) (xs : List Int) : (nums k xs).length = xs.length := by simp [nums]
theorem nums_append (k : IntKind) (xs ys : List Int) : nums k (xs ++ ys) = nums k xs ++ nums k ys := by simp [nums]
theorem own_rd {w : World} {base n : Nat} {e : TypeId} {k : IntKind} {v : Value} {xs : List Int} (h : w.ownsRow base e 1 v n (nums k xs)) (hw : ∀ x ∈ xs, (Lit.int k x).wf = true) : ∃ A c, v = .slice A n c ∧ Rd w k A n xs := by
  have hl : xs.length = n := by have := h.1; simp [nums] at this; exact this
  have hm : n ≤ 9223372036854775807 := by
    rcases h.2 with ⟨_, h1⟩ | ⟨g', cap', cur, he, _, _, h1, h2, _⟩
    · omega
    · simp only [maxLen] at h2
      omega
  rcases Nat.eq_zero_or_pos n with h0 | h0
  · rcases h.2 with ⟨rfl, rfl⟩ | ⟨g, cap, cur, rfl, _⟩
    · exact ⟨none, 0, rfl, hl, by omega, hw, fun hp => absurd hp (by omega)⟩
    · exact ⟨_, cap, rfl, hl, by omega, hw, fun hp => absurd hp (by omega)⟩
  · obtain ⟨g, cap, rfl, _, _⟩ := h.form h0
    refine ⟨_, cap, rfl, hl, hm, hw, fun _ => ⟨_, rfl, fun j hj => h.cells (g := g) rfl j _ ?_⟩⟩
    simp [nums, List.getElem?_eq_getElem (show j < xs.length by omega), List.getD_eq_getElem?_getD]
/-- A block that has just been laid. -/
theorem rd_new (w : World) (k : IntKind) (xs : List Int) (C : Array Value) (e : TypeId) (fr : Nat × Nat) (hC : C.toList = nums k xs) (hn : xs.length ≤ 9223372036854775807) (hw : ∀ x ∈ xs, (Lit.int k x).wf = true) :
    Rd (w.alloc (.cells C e fr)) k (some ⟨w.heap.size, 0, none⟩) xs.length xs :=
  ⟨rfl, hn, hw, fun _ => ⟨_, rfl, fun j hj => by
    have hb : (w.alloc (.cells C e fr)).heap[w.heap.size]? = some (.cells C e fr) := by
      show (w.heap.push _)[w.heap.size]? = _
      simp
    refine World.news_of_block hb j _ ?_
    rw [hC]
    simp [nums, List.getElem?_eq_getElem hj, List.getD_eq_getElem?_getD]⟩⟩

section
variable {P : Program}
theorem nums_oneCell (k : IntKind) (xs : List Int) : ∀ u ∈ nums k xs, u.oneCell' = true := by
  intro u hu
  obtain ⟨x, _, rfl⟩ := List.mem_map.1 hu
  rfl
/-- An append of numbers that a slice reads, nil or not. -/
theorem run_append_rd (w : World) (base : Nat) (t ty e : TypeId) (k : IntKind) (bytes : Nat) (ht : P.underlying t = some (.slice e)) (hinfo : (P.info? e).map (fun i => (i.zero, i.size, i.bytes)) = some (some (.int k 0), 1, bytes)) (hb0 : 0 < bytes)
    (v : Value) (n : Nat) (xs : List Int) (hown : w.ownsRow base e 1 v n (nums k xs)) (A : Option Addr) (m c : Nat) (ys : List Int) (hr : Rd w k A m ys)
    (hbytes : (n + m) * bytes ≤ 140737488355328) (hbase : base ≤ w.heap.size) :
    ∃ v' w', (Builtin.append_ #[t, t] ty #[v, .slice A m c]).run P w = .ok v' w' ∧ w'.ownsRow base e 1 v' (n + m) (nums k (xs ++ ys)) ∧ w.grownBy w' v.ownBlock ∧ (v'.ownBlock = v.ownBlock ∨ v'.ownBlock = some w.heap.size) := by
  obtain ⟨i, hi, hz, hsize, hby⟩ := info_parts hinfo
  have hlen : n + m ≤ 140737488355328 := Nat.le_trans (Nat.le_mul_of_pos_right _ hb0) hbytes
  rcases A with _ | ad
  · have h0 : m = 0 := by
      rcases Nat.eq_zero_or_pos m with h0 | h0
      · exact h0
      · obtain ⟨ad, e, _⟩ := hr.cell h0
        cases e
    subst h0
    obtain rfl : ys = [] := List.eq_nil_of_length_eq_zero hr.len
    refine ⟨v, w, ?_, by simpa using hown, World.grownBy.refl w _, .inl rfl⟩
    rcases hown.2 with ⟨rfl, rfl⟩ | ⟨g, cap, cur, rfl, _, _, hnc, _⟩
    · simp [Builtin.append_, run_underlying ht, sizeOf, typeInfo, hi, Builtin.lenOf, Builtin.firstCells]
    · simp [Builtin.append_, run_underlying ht, sizeOf, typeInfo, hi, Builtin.lenOf, Builtin.firstCells, hnc, storeCells]
  · have hc : ∀ j, j < m → w.cell? (ad.add j) = some (.int k (ys.getD j 0)) := fun j hj => by
      obtain ⟨a', e, hc⟩ := hr.cell (by omega)
      cases e
      exact hc j hj
    obtain ⟨v', w', hrun, h2, h3, _, h5⟩ := run_append_own_at (P := P) w base t ty e i (.int k 0) 1 bytes ht hi hz hsize hby rfl (by omega) v n (nums k xs) hown ad m c (nums k ys) (by simp [nums, hr.len])
      (fun j u hu => by
        have hj : j < ys.length := by
          rcases Nat.lt_or_ge j ys.length with h | h
          · exact h
          · simp [nums, List.getElem?_eq_none h] at hu
        have hg : (nums k ys)[j]? = some (.int k (ys.getD j 0)) := by simp [nums, List.getElem?_eq_getElem hj, List.getD_eq_getElem?_getD]
        rw [hg] at hu
        cases hu
        exact hc j (by rw [← hr.len]; exact hj)) (nums_oneCell k ys) (by simp only [maxLen]; omega) hbytes hbase
    exact ⟨v', w', hrun, by rw [nums_append]; exact h2, h3, h5⟩
theorem wpList_append_rd {ops : Array Oper} {rest : List Oper} {o : Oper} {a : Act} {Q : Exit → Act → World → Prop} (w : World) (hgd : Region.wanted o (yielded ops a.tmps) = true) (s x : Operand) (t : TypeId)
    (ho : o.op = .call { callee := .builtin .append, args := #[s, x], argTypes := #[t, t] })
    (base : Nat) (e : TypeId) (k : IntKind) (bytes : Nat) (ht : P.underlying t = some (.slice e)) (hinfo : (P.info? e).map (fun i => (i.zero, i.size, i.bytes)) = some (some (.int k 0), 1, bytes)) (hb0 : 0 < bytes)
    (v : Value) (n : Nat) (xs : List Int) (hs : a.eval s = v) (hown : w.ownsRow base e 1 v n (nums k xs)) (A : Option Addr) (m c : Nat) (ys : List Int) (hx : a.eval x = .slice A m c) (hr : Rd w k A m ys)
    (hbytes : (n + m) * bytes ≤ 140737488355328) (hbase : base ≤ w.heap.size)
    (h : ∀ v' w', w'.ownsRow base e 1 v' (n + m) (nums k (xs ++ ys)) → w.grownBy w' v.ownBlock → (v'.ownBlock = v.ownBlock ∨ v'.ownBlock = some w.heap.size) → wpList P ops Q rest (a.put o.dst v') w') : wpList P ops Q (o :: rest) a w := by
  refine wpList_step fun K hK => ?_
  rw [if_pos hgd]
  obtain ⟨v', w', hrun, h2, h3, h4⟩ := run_append_rd (P := P) w base t o.type e k bytes ht hinfo hb0 v n xs hown A m c ys hr hbytes hbase
  unfold Oper.wp execOp
  simp only [ho, resolve, invoke, builtin, Sem.run_bind, Sem.run_pure, Result.andThen_ok, List.map_toArray, List.map_cons, List.map_nil, hs, hx, hrun]
  exact hK _ _ (h v' w' h2 h3 h4)
end
theorem wf_append {k : IntKind} {xs ys : List Int} (hx : ∀ x ∈ xs, (Lit.int k x).wf = true) (hy : ∀ x ∈ ys, (Lit.int k x).wf = true) : ∀ x ∈ xs ++ ys, (Lit.int k x).wf = true := fun x h => by
  rcases List.mem_append.1 h with h | h
  · exact hx x h
  · exact hy x h
/-- A row of the call's own is kept where only another block, or none, is written. -/
theorem own_below {w w' : World} {base : Nat} {e : TypeId} {size n : Nat} {v : Value} {xs : List Value} (h : w.ownsRow base e size v n xs) (hb : Below w.heap.size w w') : w'.ownsRow base e size v n xs :=
  h.kept ⟨hb.os, hb.tape, hb.output, hb.size, fun i hi _ => hb.block i hi⟩ (row := none) (by cases v.ownBlock <;> simp)
/-- What reads so from elsewhere reads so behind an append to a row that lies from 'base' on. -/
theorem Rd.grown {w w' : World} {k : IntKind} {A : Option Addr} {n : Nat} {xs : List Int} {row : Option Nat} (h : Rd w k A n xs) (hg : w.grownBy w' row) (hne : ∀ ad, A = some ad → some ad.block ≠ row) : Rd w' k A n xs :=
  h.keep fun ad e hn => by subst e; exact hg.block _ (h.lt hn) (hne ad rfl)

section
open Go.ChangeShapes Go.WideShapes
/-- A slice of numbers that came in reads as a list. -/
theorem rd_of_trod {H : Type} {enc : TypeId × Value → H} {P : Program} {W : World} {base : Nat} {held : Bool} {t e : TypeId} {k : IntKind} {a : Option Addr} {len cap : Nat} {d : DataW H} {ps : List MemPlace}
    (hu : P.underlying t = some (.slice e)) (he : P.underlying e = some (.int k)) (hc : P.cellsOf e = 1) (h : DataW.Trod enc P W base (fun _ => true) held t (.slice a len cap) d ps) : ∃ l, Rd W k a len l ∧ len ≤ cap ∧ (a = none → cap = 0) := by
  obtain ⟨fuel, hf⟩ := h
  rcases open_ints hu he hc hf with ⟨hcs, _⟩ | ⟨x, l, c, zs, hcs, _, hl, hm, hz, _, hcell, hwz⟩
  · simp [Value.cells] at hcs
    obtain ⟨rfl, rfl, rfl⟩ := hcs
    exact ⟨[], ⟨rfl, by omega, by simp, fun h => by omega⟩, Nat.le_refl _, fun _ => rfl⟩
  · simp [Value.cells] at hcs
    obtain ⟨rfl, rfl, rfl⟩ := hcs
    have hz' : zs.length = cap := by simpa using hz
    refine ⟨zs.take len, ⟨by simp; omega, by simp only [maxLen] at hm; omega, fun x hx => hwz x (List.mem_of_mem_take hx), fun _ => ⟨_, rfl, fun j hj => ?_⟩⟩, hl, fun h => by cases h⟩
    have h1 := hcell j (by omega)
    rw [h1, List.getD_eq_getElem?_getD, List.getD_eq_getElem?_getD, List.getElem?_take_of_lt hj]
/-- And is no longer than the row's reach allows. -/
theorem sized_of_trod {H : Type} {enc : TypeId × Value → H} {P : Program} {W : World} {base : Nat} {spare : Nat → Bool} {held : Bool} {t e : TypeId} {k : IntKind} {a : Option Addr} {len cap : Nat} {d : DataW H} {ps : List MemPlace} {ts : List TypeId} {ds : List (DataW H)} {j : Nat}
    (hsz : (DataW.weightsEach P ts ds).all (· ≤ reachBytes) = true) (ht : ts[j]? = some t) (hd : ds[j]? = some d) (hu : P.underlying t = some (.slice e)) (he : P.underlying e = some (.int k)) (hc : P.cellsOf e = 1) {B : Nat} (hB : P.bytesOf e = B)
    (h : DataW.Trod enc P W base spare held t (.slice a len cap) d ps) : len * B ≤ 140737488351232 := by
  obtain ⟨fuel, hf⟩ := h
  rcases open_ints hu he hc hf with ⟨hcs, _⟩ | ⟨x, l, c, zs, hcs, _, hl, _, hz, hx, _, _⟩
  · simp [Value.cells] at hcs
    obtain ⟨rfl, rfl, rfl⟩ := hcs
    simp
  · simp [Value.cells] at hcs
    obtain ⟨rfl, rfl, rfl⟩ := hcs
    obtain ⟨hx, _⟩ := Prod.mk.inj hx
    subst hx
    have z := sized_slice hsz ht hd hu
    rw [hB] at z
    have hl2 : len ≤ zs.length := by
      rw [hz]
      split
      · exact hl
      · exact Nat.le_refl _
    have h1 : (lits (H := H) k (zs.take len)).length + (lits (H := H) k (zs.drop len)).length = zs.length := by
      simp [lits]
      omega
    rw [h1] at z
    exact Nat.le_trans (Nat.mul_le_mul_right _ hl2) z
end

/-! ### What a call may write: the blocks of S; all other old blocks are as they were. -/
structure Chg (S : Nat → Prop) (w w' : World) : Prop where
  os : w'.os = w.os
  tape : w'.tape = w.tape
  output : w'.output = w.output
  size : w.heap.size ≤ w'.heap.size
  block : ∀ i, i < w.heap.size → ¬ S i → w'.heap[i]? = w.heap[i]?
theorem Chg.refl (S : Nat → Prop) (w : World) : Chg S w w := ⟨rfl, rfl, rfl, Nat.le_refl _, fun _ _ _ => rfl⟩
theorem Chg.trans {S : Nat → Prop} {a b c : World} (h : Chg S a b) (k : Chg S b c) : Chg S a c :=
  ⟨k.os.trans h.os, k.tape.trans h.tape, k.output.trans h.output, Nat.le_trans h.size k.size, fun i hi hS => (k.block i (Nat.lt_of_lt_of_le hi h.size) hS).trans (h.block i hi hS)⟩
theorem Chg.mono {S S' : Nat → Prop} {a b : World} (h : Chg S a b) (hS : ∀ i, i < a.heap.size → S i → S' i) : Chg S' a b :=
  ⟨h.os, h.tape, h.output, h.size, fun i hi hn => h.block i hi fun h => hn (hS i hi h)⟩
theorem Chg.step {S S' : Nat → Prop} {a b c : World} (h : Chg S a b) (k : Chg S' b c) (hS : ∀ i, i < a.heap.size → S' i → S i) : Chg S a c :=
  ⟨k.os.trans h.os, k.tape.trans h.tape, k.output.trans h.output, Nat.le_trans h.size k.size, fun i hi hn => (k.block i (Nat.lt_of_lt_of_le hi h.size) fun h => hn (hS i hi h)).trans (h.block i hi hn)⟩
theorem Chg.alloc {S : Nat → Prop} {a w : World} (h : Chg S a w) (o : Obj) : Chg S a (w.alloc o) :=
  h.trans ⟨rfl, rfl, rfl, by simp, fun k hk _ => Below.heap_alloc _ _ _ hk⟩
theorem Chg.setCell {S : Nat → Prop} {a w : World} (h : Chg S a w) {p : Addr} (hp : S p.block) (u : Value) : Chg S a (w.setCell p u) :=
  h.trans ⟨rfl, rfl, rfl, by simp [World.setCell], fun k hk hn => Below.heap_setCell _ _ _ _ (fun e => hn (e ▸ hp))⟩
theorem Chg.drew {S : Nat → Prop} {a w : World} (h : Chg S a w) : Chg S a w.drew := ⟨h.os, h.tape, h.output, h.size, h.block⟩
theorem Chg.drewN {S : Nat → Prop} {a w : World} (h : Chg S a w) (n : Nat) : Chg S a (w.drewN n) := ⟨h.os, h.tape, h.output, h.size, h.block⟩
theorem Chg.grown {S : Nat → Prop} {a w w' : World} {row : Option Nat} (h : Chg S a w) (hg : w.grownBy w' row) (hr : ∀ k, row = some k → S k) : Chg S a w' :=
  h.trans ⟨hg.os, hg.tape, hg.output, hg.size, fun k hk hn => hg.block k hk (fun e => hn (hr k e.symm))⟩
theorem Chg.below {w w' : World} (h : Chg (fun i => w.heap.size ≤ i) w w') : Below w.heap.size w w' := ⟨h.os, h.tape, h.output, h.size, fun k hk => h.block k hk (by omega)⟩
theorem Chg.belowOf {S : Nat → Prop} {w w' : World} (h : Chg S w w') (hS : ∀ i, i < w.heap.size → ¬ S i) : Below w.heap.size w w' := ⟨h.os, h.tape, h.output, h.size, fun k hk => h.block k hk (hS k hk)⟩
theorem Below.chg {S : Nat → Prop} {w w' : World} (h : Below w.heap.size w w') : Chg S w w' := ⟨h.os, h.tape, h.output, h.size, fun i hi _ => h.block i hi⟩
theorem Chg.cell {S : Nat → Prop} {w w' : World} (h : Chg S w w') {a : Addr} {v : Value} (hc : w.cell? a = some v) (hS : ¬ S a.block) : w'.cell? a = some v := by
  rw [World.cell?_of_block (w := w) (h.block _ (World.block_lt_of_cell? w a hc) hS)]; exact hc
theorem Chg.at_ {S : Nat → Prop} {w w' : World} (h : Chg S w w') {i : Nat} {o : Obj} (hc : w.heap[i]? = some o) (hS : ¬ S i) : w'.heap[i]? = some o := by
  rw [h.block i (Array.getElem?_eq_some_iff.1 hc).1 hS]; exact hc
theorem Rd.chg {S : Nat → Prop} {w w' : World} {k : IntKind} {A : Option Addr} {n : Nat} {xs : List Int} (h : Rd w k A n xs) (hg : Chg S w w') (hne : ∀ ad, A = some ad → 0 < n → ¬ S ad.block) : Rd w' k A n xs :=
  h.keep fun ad e hn => by subst e; exact hg.block _ (h.lt hn) (hne ad rfl hn)
/-- A row of blocks of S. -/
structure Own (w : World) (S : Nat → Prop) (e : TypeId) (size : Nat) (v : Value) (n : Nat) (xs : List Value) : Prop where
  row : w.ownsRow 0 e size v n xs
  foot : ∀ k, v.ownBlock = some k → S k
theorem Own.chg {S S' : Nat → Prop} {w w' : World} {e : TypeId} {size n : Nat} {v : Value} {xs : List Value} (h : Own w S e size v n xs) (hg : Chg S' w w') (hd : ∀ i, S i → ¬ S' i) : Own w' S e size v n xs := by
  refine ⟨⟨h.row.1, ?_⟩, h.foot⟩
  rcases h.row.2 with h2 | ⟨g, cap, cur, rfl, hb, hh, h3⟩
  · exact .inl h2
  · exact .inr ⟨g, cap, cur, rfl, hb, hg.at_ hh (hd _ (h.foot g rfl)), h3⟩
theorem Own.keep {S : Nat → Prop} {w w' : World} {e : TypeId} {size n : Nat} {v : Value} {xs : List Value} (h : Own w S e size v n xs) (hg : ∀ g, v.ownBlock = some g → w'.heap[g]? = w.heap[g]?) : Own w' S e size v n xs := by
  refine ⟨⟨h.row.1, ?_⟩, h.foot⟩
  rcases h.row.2 with h2 | ⟨g, cap, cur, rfl, hb, hh, h3⟩
  · exact .inl h2
  · exact .inr ⟨g, cap, cur, rfl, hb, by rw [hg g rfl]; exact hh, h3⟩
theorem Own.mono {S S' : Nat → Prop} {w : World} {e : TypeId} {size n : Nat} {v : Value} {xs : List Value} (h : Own w S e size v n xs) (hS : ∀ i, i < w.heap.size → S i → S' i) : Own w S' e size v n xs :=
  ⟨h.row, fun k hk => hS k (h.row.lt k hk).2 (h.foot k hk)⟩
theorem Own.nil (w : World) (S : Nat → Prop) (e : TypeId) (size : Nat) : Own w S e size (.slice none 0 0) 0 [] := ⟨⟨by simp, .inl ⟨rfl, rfl⟩⟩, by simp [Value.ownBlock]⟩
theorem own_slice {w : World} {base n : Nat} {e : TypeId} {size : Nat} {v : Value} {xs : List Value} (h : w.ownsRow base e size v n xs) : ∃ A c, v = .slice A n c := by
  rcases h.2 with ⟨rfl, rfl⟩ | ⟨g, cap, cur, rfl, _⟩
  · exact ⟨none, 0, rfl⟩
  · exact ⟨_, cap, rfl⟩
/-- The row's block is one of the element's type: it is no block of another type. -/
theorem Own.ne {S : Nat → Prop} {w : World} {e : TypeId} {size n : Nat} {v : Value} {xs : List Value} (h : Own w S e size v n xs) {i : Nat} {c : Array Value} {e' : TypeId} {f : Nat × Nat} (hi : w.heap[i]? = some (.cells c e' f)) (hne : e ≠ e') : v.ownBlock ≠ some i := by
  intro hk
  rcases h.row.2 with ⟨rfl, _⟩ | ⟨g, cap, cur, rfl, _, hh, _⟩
  · simp [Value.ownBlock] at hk
  · simp [Value.ownBlock] at hk
    subst hk
    rw [hh] at hi
    injection hi with hi
    injection hi with _ h2
    exact hne h2

section
variable {P : Program}
/-- An append of what a slice reads, to a row of S. -/
theorem wpList_app {ops : Array Oper} {rest : List Oper} {o : Oper} {a : Act} {Q : Exit → Act → World → Prop} (w : World) (hgd : Region.wanted o (yielded ops a.tmps) = true) (s x : Operand) (t : TypeId)
    (ho : o.op = .call { callee := .builtin .append, args := #[s, x], argTypes := #[t, t] })
    (S : Nat → Prop) (e : TypeId) (k : IntKind) (bytes : Nat) (ht : P.underlying t = some (.slice e)) (hinfo : (P.info? e).map (fun i => (i.zero, i.size, i.bytes)) = some (some (.int k 0), 1, bytes)) (hb0 : 0 < bytes)
    (v : Value) (n : Nat) (xs : List Int) (hs : a.eval s = v) (hown : Own w S e 1 v n (nums k xs)) (A : Option Addr) (m c : Nat) (ys : List Int) (hx : a.eval x = .slice A m c) (hr : Rd w k A m ys)
    (hbytes : (n + m) * bytes ≤ 140737488355328) (hS : ∀ i, w.heap.size ≤ i → S i)
    (h : ∀ A' c' w', Own w' S e 1 (.slice A' (n + m) c') (n + m) (nums k (xs ++ ys)) → Chg (fun i => v.ownBlock = some i) w w' → wpList P ops Q rest (a.put o.dst (.slice A' (n + m) c')) w') : wpList P ops Q (o :: rest) a w :=
  wpList_append_rd w hgd s x t ho 0 e k bytes ht hinfo hb0 v n xs hs hown.row A m c ys hx hr hbytes (Nat.zero_le _) fun v' w' h1 h2 h3 => by
    obtain ⟨A', c', rfl⟩ := own_slice h1
    exact h A' c' w' ⟨h1, fun k hk => by
      rcases h3 with h3 | h3
      · exact hown.foot k (by rw [← h3]; exact hk)
      · rw [h3] at hk; cases hk; exact hS _ (Nat.le_refl _)⟩ ((Chg.refl _ _).grown h2 fun k hk => hk)
/-- An append of one number, laid in a block of its own just ahead. -/
theorem wpList_app1 {ops : Array Oper} {rest : List Oper} {o : Oper} {a : Act} {Q : Exit → Act → World → Prop} (w : World) (hgd : Region.wanted o (yielded ops a.tmps) = true) (s x : Operand) (t : TypeId)
    (ho : o.op = .call { callee := .builtin .append, args := #[s, x], argTypes := #[t, t] })
    (S : Nat → Prop) (e : TypeId) (k : IntKind) (bytes : Nat) (ht : P.underlying t = some (.slice e)) (hinfo : (P.info? e).map (fun i => (i.zero, i.size, i.bytes)) = some (some (.int k 0), 1, bytes)) (hb0 : 0 < bytes)
    (v : Value) (n : Nat) (xs : List Int) (hs : a.eval s = v) (hown : Own w S e 1 v n (nums k xs)) (y : Int) (hx : a.eval x = .slice (some ⟨w.heap.size, 0, none⟩) 1 1) (hy : (Lit.int k y).wf = true)
    (hbytes : (n + 1) * bytes ≤ 140737488355328) (hS : ∀ i, w.heap.size ≤ i → S i)
    (h : ∀ A' c' w', Own w' S e 1 (.slice A' (n + 1) c') (n + 1) (nums k (xs ++ [y])) → Chg (fun i => v.ownBlock = some i) w w' → wpList P ops Q rest (a.put o.dst (.slice A' (n + 1) c')) w') : wpList P ops Q (o :: rest) a (w.alloc (.cells #[.int k y] e)) :=
  wpList_app _ hgd s x t ho S e k bytes ht hinfo hb0 v n xs hs (hown.chg ((Chg.refl (fun _ => False) _).alloc _) (fun _ _ h => h)) _ 1 1 [y] hx
    (rd_new w k [y] _ e _ rfl (by simp) (by intro x hx; rw [List.mem_singleton.1 hx]; exact hy)) hbytes (fun i hi => hS i (by simp at hi; omega))
    fun A' c' w' h1 h2 => h A' c' w' h1 (((Chg.refl _ _).alloc _).step h2 fun _ _ h => h)
end
theorem Own.rd {w : World} {S : Nat → Prop} {e : TypeId} {k : IntKind} {A : Option Addr} {n c : Nat} {xs : List Int} (h : Own w S e 1 (.slice A n c) n (nums k xs)) (hw : ∀ x ∈ xs, (Lit.int k x).wf = true) : Rd w k A n xs := by
  obtain ⟨A', c', e', h'⟩ := own_rd h.row hw
  injection e' with e1 e2 e3
  subst e1
  exact h'
theorem rd_take {w : World} {k : IntKind} {A : Option Addr} {n : Nat} {xs : List Int} (h : Rd w k A n xs) {m : Nat} (hm : m ≤ n) : Rd w k A m (xs.take m) :=
  ⟨by simp [h.len]; omega, by have := h.room; omega, fun x hx => h.wf x (List.mem_of_mem_take hx), fun h0 => by
    obtain ⟨ad, e, hc⟩ := h.cell (by omega)
    exact ⟨ad, e, fun j hj => by rw [hc j (by omega), List.getD_eq_getElem?_getD, List.getD_eq_getElem?_getD, List.getElem?_take_of_lt hj]⟩⟩
theorem add_of_add (a : Addr) (i j : Nat) : (a.add i).add j = a.add (i + j) := by
  unfold Addr.add
  by_cases hi : i = 0 <;> by_cases hj : j = 0 <;> simp [hi, hj, Nat.add_assoc]
theorem add_add (a : Addr) (i j : Nat) (hj : 0 < i) : (a.add i).add j = a.add (i + j) := by
  unfold Addr.add
  rw [if_neg (by omega : ¬ i = 0), if_neg (by omega : ¬ i + j = 0)]
  split
  · rename_i h; subst h; rfl
  · simp [Nat.add_assoc]
theorem rd_drop {w : World} {k : IntKind} {ad : Addr} {n : Nat} {xs : List Int} (h : Rd w k (some ad) n xs) {m : Nat} (hm : m ≤ n) : Rd w k (some (ad.add m)) (n - m) (xs.drop m) :=
  ⟨by simp [h.len], by have := h.room; omega, fun x hx => h.wf x (List.mem_of_mem_drop hx), fun h0 => by
    obtain ⟨ad', e, hc⟩ := h.cell (by omega)
    cases e
    refine ⟨_, rfl, fun j hj => ?_⟩
    rcases Nat.eq_zero_or_pos m with h1 | h1
    · subst h1
      have : (ad.add 0) = ad := by simp [Addr.add]
      rw [this, hc j (by omega)]
      simp
    · rw [add_add _ _ _ h1, hc (m + j) (by omega), List.getD_eq_getElem?_getD, List.getD_eq_getElem?_getD, List.getElem?_drop]⟩
theorem rd_dropMap {w : World} {k : IntKind} {A : Option Addr} {n : Nat} {xs : List Int} (h : Rd w k A n xs) {m : Nat} (hm : m ≤ n) : Rd w k (A.map fun x => x.add m) (n - m) (xs.drop m) := by
  rcases A with _ | ad
  · have h0 : n = 0 := by
      rcases Nat.eq_zero_or_pos n with h0 | h0
      · exact h0
      · obtain ⟨ad, e, _⟩ := h.cell h0
        cases e
    have hl := h.len
    obtain rfl : xs = [] := List.eq_nil_of_length_eq_zero (by omega)
    subst h0
    exact ⟨by simp, by omega, by simp, fun h => by omega⟩
  · exact rd_drop h hm
theorem rd_nil (w : World) (k : IntKind) (A : Option Addr) : Rd w k A 0 [] := ⟨rfl, by omega, by simp, fun h => by omega⟩
theorem ret_int {k : IntKind} {a b : Int} (h : a = b) : Ending.returned (.int k a) = .returned (.int k b) := by rw [h]
theorem ret_bool {a b : Bool} (h : a = b) : Ending.returned (.bool a) = .returned (.bool b) := by rw [h]
theorem at_new (w : World) (o : Obj) : (w.alloc o).heap[w.heap.size]? = some o := by
  show (w.heap.push o)[w.heap.size]? = _
  simp
theorem below_new (w : World) (o : Obj) : Below w.heap.size w (w.alloc o) := (Below.refl _ _).alloc (Nat.le_refl _) o
/-- make([]T, m) of numbers. -/
theorem run_make_num {P : Program} (t e : TypeId) (k : IntKind) (bytes : Nat) (ht : P.underlying t = some (.slice e)) (hinfo : (P.info? e).map (fun i => (i.zero, i.size, i.bytes)) = some (some (.int k 0), 1, bytes)) (hb0 : 0 < bytes)
    (m : Nat) (hn : m * bytes ≤ 281474976710656) (W : World) :
    (Instr.makeSlice t (.int .i64 (m : Int)) (.int .i64 (m : Int))).run P W = .ok (.slice (some ⟨W.heap.size, 0, none⟩) m m) (W.alloc (.cells (madeCells #[.int k 0] m) e)) := by
  have hm : m ≤ 281474976710656 := Nat.le_trans (Nat.le_mul_of_pos_right _ hb0) hn
  exact run_make_row' t e (.int k 0) bytes ht hinfo rfl .i64 .i64 m (by rw [Nat.mul_comm]; exact hn) (by omega) W
theorem made_nums (k : IntKind) (m : Nat) : (madeCells #[Value.int k 0] m).toList = nums k (List.replicate m 0) := by
  apply List.ext_getElem
  · simp [nums, madeCells]
  · intro i h1 h2
    simp [nums, madeCells, Nat.mod_one]
theorem wf_zeros (k : IntKind) (hk : (Lit.int k 0).wf = true) (m : Nat) : ∀ x ∈ List.replicate m (0 : Int), (Lit.int k x).wf = true := by
  intro x hx
  rw [List.eq_of_mem_replicate hx]
  exact hk
theorem rd_made (W : World) (k : IntKind) (hk : (Lit.int k 0).wf = true) (e : TypeId) (m : Nat) (hm : m ≤ 9223372036854775807) : Rd (W.alloc (.cells (madeCells #[.int k 0] m) e)) k (some ⟨W.heap.size, 0, none⟩) m (List.replicate m 0) := by
  have h := rd_new W k (List.replicate m 0) (madeCells #[.int k 0] m) e (0, 0) (made_nums k m) (by simpa using hm) (wf_zeros k hk m)
  simpa using h
theorem run_convert_none {P : Program} (w : World) (src dst e : TypeId) (hs : P.underlying src = some (.slice e)) (he : P.underlying e = some (.int .u8)) (hd : P.underlying dst = some .string) (p : Option Addr) (c : Nat) :
    (convert src dst (.slice p 0 c)).run P w = .ok (.string ByteArray.empty) w := by
  rw [run_convert_bytes_string w src dst e _ 0 c hs he hd]
  cases p <;> simp [Conv.bytesToString, loadCells]
  all_goals rfl
/-- string(b) of bytes that a slice reads. -/
theorem run_string {P : Program} {w : World} {A : Option Addr} {n : Nat} {xs : List Int} (src dst e : TypeId) (c : Nat) (hs : P.underlying src = some (.slice e)) (he : P.underlying e = some (.int .u8)) (hd : P.underlying dst = some .string) (h : Rd w .u8 A n xs) :
    (convert src dst (.slice A n c)).run P w = .ok (.string (strOfNums xs)) w := by
  have hl := h.len
  rcases A with _ | ad
  · have h0 : n = 0 := by
      rcases Nat.eq_zero_or_pos n with h0 | h0
      · exact h0
      · obtain ⟨ad, e, _⟩ := h.cell h0
        cases e
    subst h0
    obtain rfl : xs = [] := List.eq_nil_of_length_eq_zero hl
    exact run_convert_bytes_nil w src e hs he 0 c dst hd
  · rcases Nat.eq_zero_or_pos n with h0 | h0
    · subst h0
      obtain rfl : xs = [] := List.eq_nil_of_length_eq_zero hl
      exact run_convert_none w src dst e hs he hd (some ad) c
    · obtain ⟨ad', e', hc⟩ := h.cell h0
      cases e'
      obtain ⟨b, off, sp⟩ := ad
      rcases sp with _ | sp
      · refine run_convert_bytes_arg w src e hs he b off n c xs hl (fun i hi => ?_) dst hd
        have h1 := hc i (by omega)
        have ha : (⟨b, off, none⟩ : Addr).add i = ⟨b, off + i, none⟩ := by unfold Addr.add; split <;> simp_all
        rwa [ha] at h1
      · have h1 := hc 0 h0
        simp [Addr.add, World.cell?] at h1
        split at h1 <;> simp_all
theorem Own.cap {w : World} {S : Nat → Prop} {e : TypeId} {size : Nat} {A : Option Addr} {n c : Nat} {xs : List Value} (h : Own w S e size (.slice A n c) n xs) : n ≤ c ∧ (A = none → c = 0) := by
  rcases h.row.2 with ⟨h2, h3⟩ | ⟨g, cap, cur, h2, _, _, h3, _⟩
  · cases h2
    exact ⟨by omega, fun _ => rfl⟩
  · cases h2
    exact ⟨h3, fun h => by cases h⟩
theorem Rd.drew {w : World} {k : IntKind} {A : Option Addr} {n : Nat} {xs : List Int} (h : Rd w k A n xs) : Rd w.drew k A n xs := h.below (Below.refl _ _).drew
/-! ### Worlds in which nothing that was there has turned. -/
def Ext (w w' : World) : Prop := Below w.heap.size w w'
theorem Ext.refl (w : World) : Ext w w := Below.refl _ _
theorem Ext.trans {a b c : World} (h : Ext a b) (k : Ext b c) : Ext a c := Below.trans h (Below.mono k h.size)
theorem Ext.new (w : World) (o : Obj) : Ext w (w.alloc o) := below_new w o
theorem Ext.drew {a b : World} (h : Ext a b) : Ext a b.drew := Below.drew h
theorem Ext.drewN {a b : World} (h : Ext a b) (n : Nat) : Ext a (b.drewN n) := ⟨h.os, h.tape, h.output, h.size, h.block⟩
theorem Ext.alloc {a b : World} (h : Ext a b) (o : Obj) : Ext a (b.alloc o) := h.trans (Ext.new b o)
theorem Ext.setCell {a b : World} (h : Ext a b) {p : Addr} (hp : a.heap.size ≤ p.block) (u : Value) : Ext a (b.setCell p u) := Below.setCell h hp u
theorem Ext.chg {S : Nat → Prop} {a b c : World} (h : Ext a b) (k : Chg S b c) (hS : ∀ i, S i → a.heap.size ≤ i) : Ext a c :=
  ⟨k.os.trans h.os, k.tape.trans h.tape, k.output.trans h.output, Nat.le_trans h.size k.size, fun i hi => (k.block i (Nat.lt_of_lt_of_le hi h.size) fun hs => by have := hS i hs; omega).trans (h.block i hi)⟩
theorem Ext.ofChg {S : Nat → Prop} {a c : World} (k : Chg S a c) (hS : ∀ i, S i → a.heap.size ≤ i) : Ext a c := (Ext.refl a).chg k hS
theorem Ext.lt {a b : World} (h : Ext a b) {i : Nat} (hi : i < a.heap.size) : i < b.heap.size := Nat.lt_of_lt_of_le hi h.size
theorem Rd.ext {w w' : World} {k : IntKind} {A : Option Addr} {n : Nat} {xs : List Int} (h : Rd w k A n xs) (hb : Ext w w') : Rd w' k A n xs := h.below hb
theorem Ext.at_ {w w' : World} (h : Ext w w') {i : Nat} {o : Obj} (hc : w.heap[i]? = some o) : w'.heap[i]? = some o := by
  rw [h.block i (Array.getElem?_eq_some_iff.1 hc).1]; exact hc
theorem Ext.cell_ {w w' : World} (h : Ext w w') {a : Addr} {v : Value} (hc : w.cell? a = some v) : w'.cell? a = some v := by
  rw [World.cell?_of_block (w := w) (h.block _ (World.block_lt_of_cell? w a hc))]; exact hc
/-- A row of blocks that are newer than w0. -/
abbrev New (w0 w : World) (e : TypeId) (size : Nat) (A : Option Addr) (n c : Nat) (xs : List Value) : Prop := Own w (fun i => w0.heap.size ≤ i) e size (.slice A n c) n xs
theorem Own.extNew {w w' : World} {S : Nat → Prop} {e : TypeId} {size n : Nat} {v : Value} {xs : List Value} (h : Own w S e size v n xs) (hb : Ext w w') : Own w' S e size v n xs :=
  h.keep fun g hg => hb.block g (h.row.lt g hg).2
section
variable {P : Program}
/-- append([]T{}, ys...): a row of its own. -/
theorem wpList_clone {ops : Array Oper} {rest : List Oper} {o : Oper} {a : Act} {Q : Exit → Act → World → Prop} (w : World) (hgd : Region.wanted o (yielded ops a.tmps) = true) (s x : Operand) (t : TypeId)
    (ho : o.op = .call { callee := .builtin .append, args := #[s, x], argTypes := #[t, t] })
    (e : TypeId) (k : IntKind) (bytes : Nat) (ht : P.underlying t = some (.slice e)) (hinfo : (P.info? e).map (fun i => (i.zero, i.size, i.bytes)) = some (some (.int k 0), 1, bytes)) (hb0 : 0 < bytes)
    (hs : a.eval s = .slice (some ⟨w.heap.size, 0, none⟩) 0 0) (A : Option Addr) (m c : Nat) (ys : List Int) (hx : a.eval x = .slice A m c) (hr : Rd w k A m ys)
    (hbytes : m * bytes ≤ 140737488355328)
    (h : ∀ A' c' w', New w w' e 1 A' m c' (nums k ys) → Ext w w' → wpList P ops Q rest (a.put o.dst (.slice A' m c')) w') : wpList P ops Q (o :: rest) a (w.alloc (.cells #[] e)) :=
  wpList_app _ hgd s x t ho (fun i => w.heap.size ≤ i) e k bytes ht hinfo hb0 _ 0 [] hs
    ⟨World.ownsRow_lit w #[] 0 (Nat.zero_le _) (by simp only [maxLen]; omega) rfl, by simp [Value.ownBlock]⟩ A m c ys hx (hr.below (below_new _ _)) (by simpa using hbytes) (fun _ hi => by simp at hi; omega)
    fun A' c' w' h1 h2 => by
      simp only [Nat.zero_add, List.nil_append] at h1 ⊢
      exact h A' c' w' h1 ((Ext.new w _).chg h2 fun _ hi => by simp [Value.ownBlock] at hi; omega)
/-- append(v, ys...): v is newer than w0. -/
theorem wpList_more {ops : Array Oper} {rest : List Oper} {o : Oper} {a : Act} {Q : Exit → Act → World → Prop} (w0 w : World) (hgd : Region.wanted o (yielded ops a.tmps) = true) (s x : Operand) (t : TypeId)
    (ho : o.op = .call { callee := .builtin .append, args := #[s, x], argTypes := #[t, t] })
    (e : TypeId) (k : IntKind) (bytes : Nat) (ht : P.underlying t = some (.slice e)) (hinfo : (P.info? e).map (fun i => (i.zero, i.size, i.bytes)) = some (some (.int k 0), 1, bytes)) (hb0 : 0 < bytes)
    (v : Value) (n : Nat) (xs : List Int) (hs : a.eval s = v) (hown : Own w (fun i => w0.heap.size ≤ i) e 1 v n (nums k xs)) (hE : Ext w0 w) (A : Option Addr) (m c : Nat) (ys : List Int) (hx : a.eval x = .slice A m c) (hr : Rd w k A m ys)
    (hbytes : (n + m) * bytes ≤ 140737488355328)
    (h : ∀ A' c' w', New w0 w' e 1 A' (n + m) c' (nums k (xs ++ ys)) → Ext w0 w' → wpList P ops Q rest (a.put o.dst (.slice A' (n + m) c')) w') : wpList P ops Q (o :: rest) a w :=
  wpList_app _ hgd s x t ho (fun i => w0.heap.size ≤ i) e k bytes ht hinfo hb0 v n xs hs hown A m c ys hx hr hbytes (fun _ hi => Nat.le_trans hE.size hi)
    fun A' c' w' h1 h2 => h A' c' w' h1 (hE.chg h2 fun i hi => hown.foot i hi)
/-- append(v, y): v is newer than w0. -/
theorem wpList_more1 {ops : Array Oper} {rest : List Oper} {o : Oper} {a : Act} {Q : Exit → Act → World → Prop} (w0 w : World) (hgd : Region.wanted o (yielded ops a.tmps) = true) (s x : Operand) (t : TypeId)
    (ho : o.op = .call { callee := .builtin .append, args := #[s, x], argTypes := #[t, t] })
    (e : TypeId) (k : IntKind) (bytes : Nat) (ht : P.underlying t = some (.slice e)) (hinfo : (P.info? e).map (fun i => (i.zero, i.size, i.bytes)) = some (some (.int k 0), 1, bytes)) (hb0 : 0 < bytes)
    (v : Value) (n : Nat) (xs : List Int) (hs : a.eval s = v) (hown : Own w (fun i => w0.heap.size ≤ i) e 1 v n (nums k xs)) (hE : Ext w0 w) (y : Int) (hx : a.eval x = .slice (some ⟨w.heap.size, 0, none⟩) 1 1) (hy : (Lit.int k y).wf = true)
    (hbytes : (n + 1) * bytes ≤ 140737488355328)
    (h : ∀ A' c' w', New w0 w' e 1 A' (n + 1) c' (nums k (xs ++ [y])) → Ext w0 w' → wpList P ops Q rest (a.put o.dst (.slice A' (n + 1) c')) w') : wpList P ops Q (o :: rest) a (w.alloc (.cells #[.int k y] e)) :=
  wpList_app1 w hgd s x t ho (fun i => w0.heap.size ≤ i) e k bytes ht hinfo hb0 v n xs hs hown y hx hy hbytes (fun _ hi => Nat.le_trans hE.size hi)
    fun A' c' w' h1 h2 => h A' c' w' h1 (hE.chg h2 fun i hi => hown.foot i hi)
end
/-! ### Rows of whatever cells; appends inside a region that draws its order. -/
/-- A slice's cells read so. -/
def RdV (w : World) (A : Option Addr) (vs : List Value) : Prop := vs ≠ [] → ∃ ad, A = some ad ∧ ∀ j u, vs[j]? = some u → w.cell? (ad.add j) = some u
theorem RdV.ext {w w' : World} {A : Option Addr} {vs : List Value} (h : RdV w A vs) (he : Ext w w') : RdV w' A vs := fun hn => by
  obtain ⟨ad, e, hc⟩ := h hn
  exact ⟨ad, e, fun j u hu => he.cell_ (hc j u hu)⟩
theorem Own.rdv {w : World} {S : Nat → Prop} {e : TypeId} {size n : Nat} {A : Option Addr} {c : Nat} {vs : List Value} (h : Own w S e size (.slice A n c) n vs) : RdV w A vs := fun hn => by
  have hl := h.row.1
  rcases Nat.eq_zero_or_pos n with h0 | h0
  · subst h0
    simp at hl
    exact absurd hl hn
  · obtain ⟨g, cap, hv, _, _⟩ := h.row.form h0
    have hA : A = some ⟨g, 0, none⟩ := by injection hv
    subst hA
    exact ⟨_, rfl, fun j u hu => h.row.cells (g := g) rfl j u hu⟩
theorem own_empty {w : World} {S : Nat → Prop} {e : TypeId} {g : Nat} {size : Nat} (h : w.heap[g]? = some (.cells #[] e (0, 0))) (hS : S g) : Own w S e size (.slice (some ⟨g, 0, none⟩) 0 0) 0 [] :=
  ⟨⟨by simp, .inr ⟨g, 0, #[], rfl, Nat.zero_le _, h, Nat.le_refl _, by simp only [maxLen]; omega, by simp, by simp⟩⟩, fun k hk => by simp [Value.ownBlock] at hk; subst hk; exact hS⟩
section
variable {P : Program}
/-- append(v, E{..}): v is newer than w0. -/
theorem wpList_moreE {ops : Array Oper} {rest : List Oper} {o : Oper} {a : Act} {Q : Exit → Act → World → Prop} (w0 w : World) (hgd : Region.wanted o (yielded ops a.tmps) = true) (s x : Operand) (t : TypeId)
    (ho : o.op = .call { callee := .builtin .append, args := #[s, x], argTypes := #[t, t] })
    (e : TypeId) (z : Value) (size bytes : Nat) (ht : P.underlying t = some (.slice e)) (hinfo : (P.info? e).map (fun i => (i.zero, i.size, i.bytes)) = some (some z, size, bytes)) (hzs : z.cells.size = size) (hsz : 0 < size) (hb0 : 0 < bytes)
    (v : Value) (n : Nat) (xs : List Value) (hs : a.eval s = v) (hown : Own w (fun i => w0.heap.size ≤ i) e size v n xs) (hE : Ext w0 w) (vs : List Value) (hl : vs.length = size) (h1 : ∀ u ∈ vs, u.oneCell' = true) (hx : a.eval x = .slice (some ⟨w.heap.size, 0, none⟩) 1 1)
    (hbytes : (n + 1) * bytes ≤ 140737488355328)
    (h : ∀ A' c' w', New w0 w' e size A' (n + 1) c' (xs ++ vs) → Ext w0 w' → Chg (fun i => v.ownBlock = some i) w w' → wpList P ops Q rest (a.put o.dst (.slice A' (n + 1) c')) w') : wpList P ops Q (o :: rest) a (w.alloc (.cells vs.toArray e)) := by
  refine wpList_step fun K hK => ?_
  rw [if_pos hgd]
  obtain ⟨i, hi, hz, hsize, hby⟩ := info_parts hinfo
  have hlen : n + 1 ≤ 140737488355328 := Nat.le_trans (Nat.le_mul_of_pos_right _ hb0) hbytes
  have hown' : Own (w.alloc (.cells vs.toArray e)) (fun i => w0.heap.size ≤ i) e size v n xs := hown.extNew (Ext.new _ _)
  obtain ⟨v', w', hrun, h2, h3, _, h5⟩ := run_append_own_at (P := P) (w.alloc (.cells vs.toArray e)) 0 t o.type e i z size bytes ht hi hz hsize hby hzs hsz v n xs hown'.row ⟨w.heap.size, 0, none⟩ 1 1 vs (by simp [hl])
    (fun j u hu => World.news_of_block (at_new w _) j u hu) h1 (by simp only [maxLen]; omega) hbytes (Nat.zero_le _)
  obtain ⟨A', c', rfl⟩ := own_slice h2
  unfold Oper.wp execOp
  simp only [ho, resolve, invoke, builtin, Sem.run_bind, Sem.run_pure, Result.andThen_ok, List.map_toArray, List.map_cons, List.map_nil, hs, hx, hrun]
  have hf : ∀ k, (Value.slice A' (n + 1) c').ownBlock = some k → w0.heap.size ≤ k := fun k hk => by
    rcases h5 with h5 | h5
    · exact hown.foot k (by rw [← h5]; exact hk)
    · rw [h5] at hk
      cases hk
      exact Nat.le_trans hE.size (Nat.le_trans (Nat.le_refl _) (by simp))
  refine hK _ _ (h A' c' w' ⟨h2, hf⟩ ((hE.alloc _).chg ((Chg.refl _ _).grown h3 fun k hk => hk) fun i hi => hown.foot i hi) (((Chg.refl _ _).alloc _).grown h3 fun k hk => hk))
/-- A slice's block is none of a row of e's that is newer than w0. -/
def Apt (w0 : World) (e : TypeId) (w : World) (A : Option Addr) (n : Nat) : Prop := 0 < n → ∀ ad, A = some ad → ad.block < w0.heap.size ∨ ∃ c f e', e' ≠ e ∧ w.heap[ad.block]? = some (.cells c e' f)
theorem Apt.chg {w0 w w' : World} {e : TypeId} {A : Option Addr} {n : Nat} {S : Nat → Prop} (h : Apt w0 e w A n) (hg : Chg S w w') (hS : ∀ ad, A = some ad → 0 < n → ¬ S ad.block) : Apt w0 e w' A n := fun h0 ad ha =>
  (h h0 ad ha).imp id fun ⟨c, f, e', hne, hh⟩ => ⟨c, f, e', hne, hg.at_ hh (hS ad ha h0)⟩
theorem Apt.ext {w0 w w' : World} {e : TypeId} {A : Option Addr} {n : Nat} (h : Apt w0 e w A n) (he : Ext w w') : Apt w0 e w' A n := fun h0 ad ha =>
  (h h0 ad ha).imp id fun ⟨c, f, e', hne, hh⟩ => ⟨c, f, e', hne, he.at_ hh⟩
theorem Apt.ne {w0 w : World} {e : TypeId} {A : Option Addr} {n : Nat} (h : Apt w0 e w A n) {size m : Nat} {v : Value} {xs : List Value} (ho : Own w (fun i => w0.heap.size ≤ i) e size v m xs) : ∀ ad, A = some ad → 0 < n → ¬ v.ownBlock = some ad.block := by
  intro ad ha h0 hb
  rcases h h0 ad ha with h1 | ⟨c, f, e', hne, hh⟩
  · have := ho.foot _ hb
    omega
  · exact ho.ne hh hne.symm hb
theorem Apt.own {w0 w : World} {S : Nat → Prop} {e e' : TypeId} {size n c : Nat} {A : Option Addr} {xs : List Value} (h : Own w S e' size (.slice A n c) n xs) (hne : e' ≠ e) : Apt w0 e w A n := fun h0 ad ha => by
  obtain ⟨g, cap, hv, hh, _⟩ := h.row.form h0
  rcases h.row.2 with ⟨h2, _⟩ | ⟨g', cap', cur, h2, _, hb, _⟩
  · cases h2; omega
  · cases h2
    cases ha
    exact .inr ⟨_, _, e', hne, hb⟩
theorem Apt.old {w0 w : World} {e : TypeId} {A : Option Addr} {n : Nat} (h : ∀ ad, A = some ad → 0 < n → ad.block < w0.heap.size) : Apt w0 e w A n := fun h0 ad ha => .inl (h ad ha h0)
/-- At a step of a region that draws: append(v, ys...), v newer than w0. -/
theorem step_more {ops : Array Oper} {o : Oper} {a : Act} {K : Act → World → Prop} {Q : Exit → Act → World → Prop} {E : Prop} (w0 w : World) (hgd : o.guard = none) (s x : Operand) (t : TypeId)
    (ho : o.op = .call { callee := .builtin .append, args := #[s, x], argTypes := #[t, t] })
    (e : TypeId) (k : IntKind) (bytes : Nat) (ht : P.underlying t = some (.slice e)) (hinfo : (P.info? e).map (fun i => (i.zero, i.size, i.bytes)) = some (some (.int k 0), 1, bytes)) (hb0 : 0 < bytes)
    (v : Value) (n : Nat) (xs : List Int) (hs : a.eval s = v) (hown : Own w (fun i => w0.heap.size ≤ i) e 1 v n (nums k xs)) (hE : Ext w0 w) (A : Option Addr) (m c : Nat) (ys : List Int) (hx : a.eval x = .slice A m c) (hr : Rd w k A m ys)
    (hbytes : (n + m) * bytes ≤ 140737488355328)
    (h : ∀ A' c' w', New w0 w' e 1 A' (n + m) c' (nums k (xs ++ ys)) → Ext w0 w' → K (a.put o.dst (.slice A' (n + m) c')) w') :
    if Region.wanted o (yielded ops a.tmps) = true then Oper.wp P o a w K Q else E := by
  have hw : Region.wanted o (yielded ops a.tmps) = true := by simp [Region.wanted, hgd]
  rw [if_pos hw]
  obtain ⟨v', w', hrun, h2, h3, h4⟩ := run_append_rd (P := P) w 0 t o.type e k bytes ht hinfo hb0 v n xs hown.row A m c ys hr hbytes (Nat.zero_le _)
  obtain ⟨A', c', rfl⟩ := own_slice h2
  unfold Oper.wp execOp
  simp only [ho, resolve, invoke, builtin, Sem.run_bind, Sem.run_pure, Result.andThen_ok, List.map_toArray, List.map_cons, List.map_nil, hs, hx, hrun]
  refine h A' c' w' ⟨h2, fun k hk => ?_⟩ (hE.chg ((Chg.refl _ _).grown h3 fun k hk => hk) fun i hi => hown.foot i hi)
  rcases h4 with h4 | h4
  · exact hown.foot k (by rw [← h4]; exact hk)
  · rw [h4] at hk; cases hk; exact hE.size
end
theorem wrap_u8 {x : Int} (h0 : 0 ≤ x) (h1 : x < 256) : IntKind.u8.wrap x = x := by simp [IntKind.wrap, IntKind.bits, IntKind.signed]; omega
theorem wrap_u16 {x : Int} (h0 : 0 ≤ x) (h1 : x < 65536) : IntKind.u16.wrap x = x := by simp [IntKind.wrap, IntKind.bits, IntKind.signed]; omega
theorem wrap_u32 {x : Int} (h0 : 0 ≤ x) (h1 : x < 4294967296) : IntKind.u32.wrap x = x := by simp [IntKind.wrap, IntKind.bits, IntKind.signed]; omega
theorem wrap_u64 {x : Int} (h0 : 0 ≤ x) (h1 : x < 18446744073709551616) : IntKind.u64.wrap x = x := by simp [IntKind.wrap, IntKind.bits, IntKind.signed]; omega
/-- A scope in which the run jumps back to one label: the pass is walked once. -/
theorem wp_scope_jumps2 {P : Program} {a : Act} {w : World} {Q : Exit → Act → World → Prop} {c rest : Code} (l : Nat) (J : Act → World → Prop) (μ : Act → World → Nat) (hf : findLabel c l = some (.seq .skip rest))
    (pass : ∀ a w, J a w → rest.wp P (Exit.jump l (fun a' w' => J a' w' ∧ μ a' w' < μ a w) Q) a w)
    (first : (∀ a w, J a w → rest.wp P (Exit.jump l J Q) a w) → c.wp P (Exit.jump l J Q) a w) : (Code.scope c).wp P Q a w :=
  wp_scope_jumps l J μ hf (first fun a w h => wp_mono (pass a w h) fun e a' w' h' => by
    cases e with
    | goto l' => exact ⟨h'.1, h'.2.1⟩
    | _ => exact h') fun a w h => wp_seq (wp_skip (pass a w h))
theorem get_flat {α : Type} (f : α → List Value) (size : Nat) (hf : ∀ r, (f r).length = size) : ∀ (l : List α) (i k : Nat) (r : α), l[i]? = some r → k < size → (l.flatMap f)[i * size + k]? = (f r)[k]?
  | [], _, _, _, h, _ => by cases h
  | x :: l, 0, k, r, h, hk => by
    simp at h
    subst h
    rw [List.flatMap_cons, Nat.zero_mul, Nat.zero_add, List.getElem?_append_left (by rw [hf]; exact hk)]
  | x :: l, i + 1, k, r, h, hk => by
    rw [List.flatMap_cons, List.getElem?_append_right (by rw [hf, Nat.succ_mul]; omega), hf, show (i + 1) * size + k - size = i * size + k by rw [Nat.succ_mul]; omega]
    exact get_flat f size hf l i k r (by simpa using h) hk
end Go.Proofs.Ytipmkddcdnbihaa.Base
namespace Go.Proofs.Ytipmkddcdnbihaa.Pack
open Go.RowKit Base

theorem info_u8 : (Try.prog.info? 5).map (fun i => (i.zero, i.size, i.bytes)) = some (some (.int .u8 0), 1, 1) := by kernel_rfl

/-- A writer at block g that has gathered xs, all of it in blocks of S. -/
structure WriterIs (w : World) (S : Nat → Prop) (g : Nat) (A : Option Addr) (n c : Nat) (xs : List Int) : Prop where
  at_ : w.heap[g]? = some (.cells #[.slice A n c] 190 (0, 0))
  own : Own w S 5 1 (.slice A n c) n (nums .u8 xs)
  foot : S g
  wf : ∀ x ∈ xs, (Lit.int .u8 x).wf = true
def Writer (w : World) (S : Nat → Prop) (g : Nat) (xs : List Int) : Prop := ∃ A n c, WriterIs w S g A n c xs
theorem cell_of {w : World} {g : Nat} {v : Value} {T : TypeId} {fr : Nat × Nat} (h : w.heap[g]? = some (.cells #[v] T fr)) : w.cell? ⟨g, 0, none⟩ = some v := by simp [World.cell?, h]
theorem free_of {w : World} {g : Nat} {C : Array Value} {T : TypeId} (h : w.heap[g]? = some (.cells C T (0, 0))) (j : Nat) : w.frozen? ⟨g, j, none⟩ = false := by simp [World.frozen?, h]
theorem lt_of_at {w : World} {g : Nat} {o : Obj} (h : w.heap[g]? = some o) : g < w.heap.size := (Array.getElem?_eq_some_iff.1 h).1
theorem setCell_at {w : World} {g : Nat} {v u : Value} {T : TypeId} {fr : Nat × Nat} (h : w.heap[g]? = some (.cells #[v] T fr)) : (w.setCell ⟨g, 0, none⟩ u).heap[g]? = some (.cells #[u] T fr) := by
  simp [World.setCell, Array.getElem?_modify, h]
theorem WriterIs.chg {w w' : World} {S S' : Nat → Prop} {g : Nat} {A : Option Addr} {n c : Nat} {xs : List Int} (h : WriterIs w S g A n c xs) (hg : Chg S' w w') (hd : ∀ i, S i → ¬ S' i) : WriterIs w' S g A n c xs :=
  ⟨hg.at_ h.at_ (hd _ h.foot), h.own.chg hg hd, h.foot, h.wf⟩
theorem WriterIs.put {w : World} {S : Nat → Prop} {g : Nat} {v : Value} {A : Option Addr} {n c : Nat} {xs : List Int} (hb : w.heap[g]? = some (.cells #[v] 190 (0, 0))) (ho : Own w S 5 1 (.slice A n c) n (nums .u8 xs)) (hS : S g) (hw : ∀ x ∈ xs, (Lit.int .u8 x).wf = true) :
    WriterIs (w.setCell ⟨g, 0, none⟩ (.slice A n c)) S g A n c xs :=
  ⟨setCell_at hb, ho.keep fun i hi => Below.heap_setCell _ _ _ _ fun e => ho.ne hb (by decide) (by rw [hi, e]), hS, hw⟩

set_option maxHeartbeats 400000 in
set_option maxRecDepth 100000 in
theorem num_calls (S : Nat → Prop) (g : Nat) (xs : List Int) (n : Int) (size : Int) (w : World) (hS : ∀ i, w.heap.size ≤ i → S i) (hw : Writer w S g xs) (h0 : 0 ≤ size) (h8 : size ≤ 8) (hn0 : 0 ≤ n) (hn1 : n < 18446744073709551616)
    (hx : xs.length ≤ 1099511627776) :
    Calls Try.prog 99 #[.pointer (some ⟨g, 0, none⟩), .int .u64 n, .int .i64 size] w fun e w' => e = .returned (.pointer (some ⟨g, 0, none⟩)) ∧ Writer w' S g (xs ++ Le.le size.toNat n) ∧ Chg S w w' := by
  have HS := Lib.hid hS
  have HW := Lib.hid hw
  clear hw hS
  go_enter Try.func99, Try.ntmps99
  go_wp2
  go_loopw [1, 10] (fun m i wr => ∃ k : Nat, (k : Int) ≤ size ∧ i = .int .i64 k ∧ m = .int .u64 (n / 256 ^ k) ∧ Hid (Writer wr S g (xs ++ Le.le k n)) ∧ Hid (Chg S w wr)) (fun _ i _ => size.toNat - (intOf i).toNat)
  case atStart => exact ⟨0, h0, rfl, by simp, Lib.hid (by simpa [Le.le] using HW.out), Lib.hid (Chg.refl _ _)⟩
  case round =>
    obtain ⟨k, hk, rfl, rfl, HV, HC⟩ := hrel
    obtain ⟨A1, n1, c1, hv1⟩ := HV.out
    have hcell := cell_of hv1.at_
    have hfree := free_of hv1.at_ 0
    have HV1 := Lib.hid hv1
    have hn1' : n1 ≤ 1099511627784 := by have := hv1.own.row.1; simp [nums, Le.le_length] at this; omega
    clear hv1 HV
    have hq0 : 0 ≤ n / 256 ^ k := Int.ediv_nonneg hn0 (Int.pow_nonneg (by omega))
    have hq1 : n / 256 ^ k < 18446744073709551616 := Int.lt_of_le_of_lt (Int.ediv_le_self _ hn0) hn1
    by_cases hlt : (k : Int) < size
    · go_wp2_with (at_builtin; refine wpList_app1 _ rfl (.tmp 16) (.tmp 19) 55 rfl S 5 .u8 1 Try.underlying55 info_u8 (by decide) (.slice A1 n1 c1) _ (xs ++ Le.le k n) rfl HV1.out.own _ rfl ?c1 ?c2 ?c3 ?_)
      case c1 => exact u8_wf (by omega) (by omega)
      case c2 => omega
      case c3 => exact fun i hi => HS.out i (Nat.le_trans HC.out.size hi)
      intro A2 c2 w2 ho2 hc2
      have hb2 := hc2.at_ HV1.out.at_ (HV1.out.own.ne HV1.out.at_ (by decide))
      have HO2 := Lib.hid ho2
      have HC2 := Lib.hid hc2
      have HB2 := Lib.hid hb2
      have hcell2 := cell_of hb2
      have hfree2 := free_of hb2 0
      clear ho2 hc2 hb2
      have hs1 : xs ++ Le.le k n ++ [n / 256 ^ k % 256] = xs ++ Le.le (k + 1) n := by rw [Le.le_snoc, List.append_assoc]
      have HS1 := Lib.hid hs1
      clear hs1
      have hd1 : n / 256 ^ k / 256 = n / 256 ^ (k + 1) := by rw [Int.ediv_ediv_of_nonneg (Int.pow_nonneg (by omega)), Int.pow_succ]
      have HD1 := Lib.hid hd1
      clear hd1
      go_wp2
      go_roundw
      case rel =>
        refine ⟨k + 1, by omega, by go_num, by rw [HD1.out], Lib.hid ⟨A2, n1 + 1, c2, ?_⟩, Lib.hid ((HC.out.step HC2.out fun i _ h => HV1.out.own.foot i h).setCell (p := ⟨g, 0, none⟩) HV1.out.foot _)⟩
        rw [← HS1.out]
        exact WriterIs.put HB2.out (by rw [List.append_assoc]; exact HO2.out) HV1.out.foot (wf_append HV1.out.wf (by intro x hx; rw [List.mem_singleton.1 hx]; exact u8_wf (by omega) (by omega)))
      case measure => simp [intOf]; omega
    · go_wp2
      go_ret
      obtain rfl : (k : Int) = size := by omega
      exact ⟨rfl, by simpa using ⟨_, _, _, HV1.out⟩, HC.out⟩

set_option maxHeartbeats 400000 in
set_option maxRecDepth 100000 in
theorem wraw_calls (S : Nat → Prop) (g : Nat) (xs : List Int) (B : Option Addr) (m cb : Nat) (ys : List Int) (w : World) (hS : ∀ i, w.heap.size ≤ i → S i) (hw : Writer w S g xs) (hr : Rd w .u8 B m ys)
    (hx : xs.length ≤ 1099511627776) (hm : m ≤ 1099511627776) :
    Calls Try.prog 173 #[.pointer (some ⟨g, 0, none⟩), .slice B m cb] w fun e w' => e = .returned (.pointer (some ⟨g, 0, none⟩)) ∧ Writer w' S g (xs ++ ys) ∧ Chg S w w' := by
  have HS := Lib.hid hS
  have HR := Lib.hid hr
  obtain ⟨A1, n1, c1, hv1⟩ := hw
  have hcell := cell_of hv1.at_
  have hfree := free_of hv1.at_ 0
  have HV1 := Lib.hid hv1
  have hn1' : n1 ≤ 1099511627784 := by have := hv1.own.row.1; simp [nums] at this; omega
  clear hv1 hS hr
  go_enter Try.func173, Try.ntmps173
  go_wp2_with (at_builtin; refine wpList_app _ rfl (.tmp 9) (.tmp 10) 55 rfl S 5 .u8 1 Try.underlying55 info_u8 (by decide) (.slice A1 n1 c1) _ xs rfl HV1.out.own B m cb ys rfl HR.out ?c2 HS.out ?_)
  case c2 => omega
  intro A2 c2 w2 ho2 hc2
  have hb2 := hc2.at_ HV1.out.at_ (HV1.out.own.ne HV1.out.at_ (by decide))
  have HO2 := Lib.hid ho2
  have HC2 := Lib.hid hc2
  have HB2 := Lib.hid hb2
  have hcell2 := cell_of hb2
  have hfree2 := free_of hb2 0
  clear ho2 hc2 hb2
  go_wp2
  go_ret
  exact ⟨rfl, ⟨A2, n1 + m, c2, WriterIs.put HB2.out HO2.out HV1.out.foot (wf_append HV1.out.wf HR.out.wf)⟩, (HC2.out.mono fun i _ h => HV1.out.own.foot i h).setCell (p := ⟨g, 0, none⟩) HV1.out.foot _⟩

set_option maxHeartbeats 400000 in
set_option maxRecDepth 100000 in
theorem bytes_calls (S : Nat → Prop) (g : Nat) (xs : List Int) (w : World) (hw : Writer w S g xs) (hx : xs.length ≤ 1099511627776) :
    Calls Try.prog 101 #[.pointer (some ⟨g, 0, none⟩)] w fun e w' => ∃ A c, e = .returned (.slice A xs.length c) ∧ Own w' (fun i => w.heap.size ≤ i) 5 1 (.slice A xs.length c) xs.length (nums .u8 xs) ∧ Below w.heap.size w w' := by
  obtain ⟨A1, n1, c1, hv1⟩ := hw
  have hcell := cell_of hv1.at_
  have hlt : g < w.heap.size := lt_of_at hv1.at_
  have hfree := free_of hv1.at_ 0
  have HV1 := Lib.hid hv1
  have hn1' : n1 ≤ 1099511627784 := by have := hv1.own.row.1; simp [nums] at this; omega
  have hr := hv1.own.rd hv1.wf
  have HRA := Lib.hid (hr.below ((Below.refl _ _).alloc (Nat.le_refl _) (.cells #[] 5)))
  have hl := hr.len
  obtain rfl : xs.length = n1 := hl
  have hsz : (w.alloc (.cells #[] 5)).heap.size = w.heap.size + 1 := by simp
  have HSZ := Lib.hid hsz
  clear hr hsz hv1
  go_enter Try.func101, Try.ntmps101
  go_wp2_with (at_builtin; refine wpList_app _ rfl (.tmp 3) (.tmp 7) 55 rfl (fun i => w.heap.size ≤ i) 5 .u8 1 Try.underlying55 info_u8 (by decide) (.slice (some ⟨w.heap.size, 0, none⟩) 0 0) 0 [] rfl ?c1 A1 _ c1 xs rfl HRA.out ?c2 ?c3 ?_)
  case c1 => exact ⟨World.ownsRow_lit w #[] 0 (Nat.zero_le _) (by simp only [maxLen]; omega) rfl, by simp [Value.ownBlock]⟩
  case c2 => omega
  case c3 => intro i hi; have := HSZ.out; omega
  intro A2 c2 w2 ho2 hc2
  have HO2 := Lib.hid ho2
  have HC2 := Lib.hid hc2
  clear ho2 hc2
  go_wp2
  go_ret
  refine ⟨A2, c2, rfl, by simpa using HO2.out, ?_⟩
  exact Chg.below (((Chg.refl _ _).alloc _).step HC2.out fun i hi h => by simp [Value.ownBlock] at h; omega)

/-- A reader at block g that has xs before it. -/
structure ReaderIs (w : World) (g : Nat) (A : Option Addr) (n c : Nat) (xs : List Int) (torn : Bool) : Prop where
  at_ : w.heap[g]? = some (.cells #[.slice A n c, .bool torn] 323 (0, 0))
  rd : Rd w .u8 A n xs
  room : n ≤ c
  none : A = none → c = 0
def Reader (w : World) (g : Nat) (xs : List Int) (torn : Bool) : Prop := ∃ A n c, ReaderIs w g A n c xs torn
theorem cell0_of {w : World} {g : Nat} {v u : Value} {T : TypeId} {fr : Nat × Nat} (h : w.heap[g]? = some (.cells #[v, u] T fr)) : w.cell? ⟨g, 0, Option.none⟩ = some v := by simp [World.cell?, h]
theorem cell1_of {w : World} {g : Nat} {v u : Value} {T : TypeId} {fr : Nat × Nat} (h : w.heap[g]? = some (.cells #[v, u] T fr)) : w.cell? ⟨g, 1, Option.none⟩ = some u := by simp [World.cell?, h]
theorem setCell_at0 {w : World} {g : Nat} {v v2 u : Value} {T : TypeId} {fr : Nat × Nat} (h : w.heap[g]? = some (.cells #[v, v2] T fr)) : (w.setCell ⟨g, 0, Option.none⟩ u).heap[g]? = some (.cells #[u, v2] T fr) := by
  simp [World.setCell, Array.getElem?_modify, h]
theorem setCell_at1 {w : World} {g : Nat} {v v2 u : Value} {T : TypeId} {fr : Nat × Nat} (h : w.heap[g]? = some (.cells #[v, v2] T fr)) : (w.setCell ⟨g, 1, Option.none⟩ u).heap[g]? = some (.cells #[v, u] T fr) := by
  simp [World.setCell, Array.getElem?_modify, h]
theorem rd_setCell {w : World} {k : IntKind} {A : Option Addr} {n : Nat} {xs : List Int} (h : Rd w k A n xs) {p : Addr} (u : Value) (hne : ∀ ad, A = some ad → 0 < n → ad.block ≠ p.block) : Rd (w.setCell p u) k A n xs :=
  h.keep fun ad e hn => Below.heap_setCell _ _ _ _ (hne ad e hn)
theorem ReaderIs.apart {w : World} {g : Nat} {A : Option Addr} {n c : Nat} {xs : List Int} {torn : Bool} (h : ReaderIs w g A n c xs torn) : ∀ ad, A = some ad → 0 < n → ad.block ≠ g := by
  intro ad hA hn hg
  obtain ⟨ad', e, hc⟩ := h.rd.cell hn
  rw [hA] at e
  cases e
  have h0 := hc 0 hn
  unfold World.cell? at h0
  rw [block_add, hg, h.at_] at h0
  simp only [] at h0
  split at h0
  · cases h0
  · have hm := Array.mem_of_getElem? h0
    simp at hm

set_option maxHeartbeats 400000 in
set_option maxRecDepth 100000 in
theorem rraw_yes (g : Nat) (xs : List Int) (torn : Bool) (k : Int) (w : World) (hr : Reader w g xs torn) (h0 : 0 ≤ k) (h1 : k ≤ xs.length) (hx : xs.length ≤ 1099511627776) :
    Calls Try.prog 214 #[.pointer (some ⟨g, 0, Option.none⟩), .int .i64 k] w fun e w' => ∃ A c, e = .returned (.slice A k.toNat c) ∧ Own w' (fun i => w.heap.size ≤ i) 5 1 (.slice A k.toNat c) k.toNat (nums .u8 (xs.take k.toNat)) ∧
      Reader w' g (xs.drop k.toNat) torn ∧ Chg (fun i => i = g) w w' := by
  obtain ⟨A1, n1, c1, hv1⟩ := hr
  have hcell0 := cell0_of hv1.at_
  have hcell1 := cell1_of hv1.at_
  have hfree := free_of hv1.at_ 0
  have hlt : g < w.heap.size := lt_of_at hv1.at_
  have HV1 := Lib.hid hv1
  have hl := hv1.rd.len
  obtain rfl : xs.length = n1 := hl
  have hroom := hv1.room
  obtain ⟨k, rfl⟩ := Int.eq_ofNat_of_zero_le h0
  have hsl : Rd w .u8 A1 k (xs.take k) := rd_take hv1.rd (by omega)
  have hal : Below w.heap.size w (w.alloc (.cells #[] 5)) := (Below.refl _ _).alloc (Nat.le_refl _) _
  have HRA := Lib.hid (hsl.below hal)
  have hsz : (w.alloc (.cells #[] 5)).heap.size = w.heap.size + 1 := by simp
  have HSZ := Lib.hid hsz
  clear hv1 hsl hal hsz
  go_enter Try.func214, Try.ntmps214
  go_wp2_with (at_builtin; refine wpList_app _ rfl (.tmp 23) (.tmp 29) 55 rfl (fun i => w.heap.size ≤ i) 5 .u8 1 Try.underlying55 info_u8 (by decide) (.slice (some ⟨w.heap.size, 0, Option.none⟩) 0 0) 0 [] rfl ?c1 A1 k _ (xs.take k) rfl HRA.out ?c2 ?c3 ?_)
  case c1 => exact ⟨World.ownsRow_lit w #[] 0 (Nat.zero_le _) (by simp only [maxLen]; omega) rfl, by simp [Value.ownBlock]⟩
  case c2 => omega
  case c3 => intro i hi; have := HSZ.out; omega
  intro A2 c2 w2 ho2 hc2
  have HO2 := Lib.hid ho2
  have hc3 : Chg (fun _ => False) w w2 := ((Chg.refl _ _).alloc _).step hc2 fun i hi h => by simp [Value.ownBlock] at h; omega
  have HC3 := Lib.hid hc3
  have hb2 := hc3.at_ HV1.out.at_ (fun h => h)
  have HB2 := Lib.hid hb2
  have hcell20 := cell0_of hb2
  have hcell21 := cell1_of hb2
  have hfree2 := free_of hb2 0
  clear ho2 hc2 hc3 hb2
  go_wp2
  all_goals
    go_ret
    refine ⟨A2, c2, rfl, HO2.out.keep fun i hi => Below.heap_setCell _ _ _ _ fun e => HO2.out.ne HB2.out (by decide) (by rw [hi, e]), ?_, Chg.setCell (S := fun i => i = g) (HC3.out.mono fun _ _ h => h.elim) (p := ⟨g, 0, Option.none⟩) rfl _⟩
  · have : xs.length - k = 0 := by omega
    rw [this]
    refine ⟨A1, 0, 0, setCell_at0 HB2.out, ?_, Nat.le_refl _, fun _ => rfl⟩
    rw [List.drop_eq_nil_of_le (by omega)]
    exact rd_nil _ _ _
  · refine ⟨_, _, _, setCell_at0 HB2.out, rd_setCell (rd_dropMap (HV1.out.rd.chg HC3.out fun _ _ _ h => h) (by omega)) _ ?_, by omega, ?_⟩
    · intro ad e hn
      rcases A1 with _ | a1
      · cases e
      · cases e
        rw [block_add]
        exact HV1.out.apart a1 rfl (by omega)
    · intro e
      rcases A1 with _ | a1
      · have := HV1.out.none rfl; omega
      · cases e

set_option maxHeartbeats 400000 in
set_option maxRecDepth 100000 in
theorem rraw_no (g : Nat) (xs : List Int) (torn : Bool) (k : Int) (w : World) (hr : Reader w g xs torn) (h1 : k < 0 ∨ xs.length < k) :
    Calls Try.prog 214 #[.pointer (some ⟨g, 0, Option.none⟩), .int .i64 k] w fun e w' => e = .returned (.slice Option.none 0 0) ∧ Reader w' g [] true ∧ Chg (fun i => i = g) w w' := by
  obtain ⟨A1, n1, c1, hv1⟩ := hr
  have hcell0 := cell0_of hv1.at_
  have hcell1 := cell1_of hv1.at_
  have hfree := free_of hv1.at_ 0
  have hfree1 := free_of hv1.at_ 1
  have HV1 := Lib.hid hv1
  have hl := hv1.rd.len
  obtain rfl : xs.length = n1 := hl
  clear hv1
  have hfin : ∀ W, W = (w.setCell ⟨g, 1, Option.none⟩ (.bool true)).setCell ⟨g, 0, Option.none⟩ (.slice Option.none 0 0) → Reader W g [] true ∧ Chg (fun i => i = g) w W := by
    rintro _ rfl
    exact ⟨⟨Option.none, 0, 0, setCell_at0 (setCell_at1 HV1.out.at_), rd_nil _ _ _, Nat.le_refl _, fun _ => rfl⟩, Chg.setCell (S := fun i => i = g) (Chg.setCell (S := fun i => i = g) (Chg.refl _ _) (p := ⟨g, 1, Option.none⟩) rfl _) (p := ⟨g, 0, Option.none⟩) rfl _⟩
  have HF := Lib.hid hfin
  clear hfin
  rcases h1 with h1 | h1
  · go_enter Try.func214, Try.ntmps214
    go_wp2
    go_ret
    exact ⟨rfl, HF.out _ rfl⟩
  · have h2 : ¬ k < 0 := by omega
    go_enter Try.func214, Try.ntmps214
    go_wp2
    go_ret
    exact ⟨rfl, HF.out _ rfl⟩

def rn (k : Nat) (xs : List Int) : Int := if k ≤ xs.length then Le.of (xs.take k) else 0
def rx (k : Nat) (xs : List Int) : List Int := if k ≤ xs.length then xs.drop k else []
def rt (k : Nat) (xs : List Int) (torn : Bool) : Bool := if k ≤ xs.length then torn else true

set_option maxHeartbeats 400000 in
set_option maxRecDepth 100000 in
theorem rnum_calls (g : Nat) (xs : List Int) (torn : Bool) (k : Int) (w : World) (hr : Reader w g xs torn) (h0 : 0 ≤ k) (h8 : k ≤ 8) (hx : xs.length ≤ 1099511627776) :
    Calls Try.prog 156 #[.pointer (some ⟨g, 0, Option.none⟩), .int .i64 k] w fun e w' => e = .returned (.int .u64 (rn k.toNat xs)) ∧ Reader w' g (rx k.toNat xs) (rt k.toNat xs torn) ∧ Chg (fun i => i = g) w w' := by
  have HR := Lib.hid hr
  clear hr
  obtain ⟨k, rfl⟩ := Int.eq_ofNat_of_zero_le h0
  rw [Int.toNat_natCast]
  by_cases hk : (k : Int) ≤ xs.length
  · have e1 : rn k xs = Le.of (xs.take k) := if_pos (by omega)
    have e2 : rx k xs = xs.drop k := if_pos (by omega)
    have e3 : rt k xs torn = torn := if_pos (by omega)
    rw [e1, e2, e3]
    clear e1 e2 e3
    go_enter Try.func156, Try.ntmps156
    go_wp2_with fail
    refine (rraw_yes g xs torn k w HR.out h0 (by omega) hx).mono ?_
    rintro e w' ⟨A, c, rfl, ho, hrd, hc⟩
    rw [Int.toNat_natCast] at *
    have HO := Lib.hid ho
    have HRD := Lib.hid hrd
    have HC := Lib.hid hc
    have hwf : ∀ x ∈ xs, (Lit.int .u8 x).wf = true := by obtain ⟨_, _, _, h⟩ := HR.out; exact h.rd.wf
    clear ho hrd hc
    have hro : Rd w' .u8 A k (xs.take k) := HO.out.rd (fun x hx => hwf x (List.mem_of_mem_take hx))
    have HRO := Lib.hid hro
    clear hro hwf
    generalize hys : xs.take k = ys at *
    have HYS := Lib.hid hys
    clear hys
    go_wp2
    go_loopw [5, 6, 7, 14] (fun n _ _ i wr => ∃ j : Nat, j ≤ k ∧ i = .int .i64 j ∧ n = .int .u64 (Le.of (ys.take j)) ∧ wr = w') (fun _ _ _ i _ => k - (intOf i).toNat)
    case atStart => exact ⟨0, Nat.zero_le _, rfl, rfl, rfl⟩
    case round =>
      obtain ⟨j, hj, rfl, rfl, rfl⟩ := hrel
      by_cases hlt : j < k
      · obtain ⟨ad, rfl, hcell⟩ := HRO.out.at_ hlt
        obtain ⟨hz0, hz1⟩ := wf_u8 (HRO.out.wfAt hlt)
        generalize hg : ys.getD j 0 = b at *
        have HG := Lib.hid hg
        clear hg
        have hb := Le.of_take_bound (fun x hx => wf_u8 (HRO.out.wf x hx)) HRO.out.len hj
        have hor := Le.or_step j (by omega) (Le.of (ys.take j)) b hb.1 hb.2 hz0 hz1
        have hsn := Le.of_snoc (ys.take j) b
        rw [← take_next HRO.out.len hlt HG.out, List.length_take, HRO.out.len, Nat.min_eq_left hj, ← hor] at hsn
        have HSN := Lib.hid hsn
        clear hb hor hsn
        go_wp2
        go_roundw
        case rel => exact ⟨j + 1, by omega, by go_num, by rw [HSN.out], trivial⟩
        case measure => simp [intOf]; omega
      · obtain rfl : j = k := by omega
        have ht : ys.take j = ys := List.take_of_length_le (by rw [HRO.out.len]; omega)
        have HT := Lib.hid ht
        clear ht
        go_wp2
        go_ret
        exact ⟨ret_int (by rw [HYS.out, HT.out]), HRD.out, HC.out⟩
  · have e1 : rn k xs = 0 := if_neg (by omega)
    have e2 : rx k xs = [] := if_neg (by omega)
    have e3 : rt k xs torn = true := if_neg (by omega)
    rw [e1, e2, e3]
    clear e1 e2 e3
    go_enter Try.func156, Try.ntmps156
    go_wp2_with fail
    refine (rraw_no g xs torn k w HR.out (.inr (by omega))).mono ?_
    rintro e w' ⟨rfl, hrd⟩
    have HRD := Lib.hid hrd
    clear hrd
    go_wp2
    go_loopw [5, 6, 7, 14] (fun n _ _ i wr => i = .int .i64 0 ∧ n = .int .u64 0 ∧ wr = w') (fun _ _ _ i _ => 0)
    case atStart => exact ⟨rfl, rfl, rfl⟩
    case round =>
      obtain ⟨rfl, rfl, rfl⟩ := hrel
      go_wp2
      go_ret
      exact ⟨rfl, HRD.out⟩

theorem torn_calls (g : Nat) (xs : List Int) (torn : Bool) (w : World) (hr : Reader w g xs torn) :
    Calls Try.prog 212 #[.pointer (some ⟨g, 0, Option.none⟩)] w fun e w' => e = .returned (.bool torn) ∧ w = w' := by
  obtain ⟨A1, n1, c1, hv1⟩ := hr
  have hcell0 := cell0_of hv1.at_
  have hcell1 := cell1_of hv1.at_
  clear hv1
  go_enter Try.func212, Try.ntmps212
  go_wp2
  go_ret
  exact ⟨rfl, rfl⟩
theorem left_calls (g : Nat) (xs : List Int) (torn : Bool) (w : World) (hr : Reader w g xs torn) :
    Calls Try.prog 213 #[.pointer (some ⟨g, 0, Option.none⟩)] w fun e w' => e = .returned (.int .i64 xs.length) ∧ w = w' := by
  obtain ⟨A1, n1, c1, hv1⟩ := hr
  have hcell0 := cell0_of hv1.at_
  have hcell1 := cell1_of hv1.at_
  have hl := hv1.rd.len
  obtain rfl : xs.length = n1 := hl
  clear hv1
  go_enter Try.func213, Try.ntmps213
  go_wp2
  go_ret
  exact ⟨rfl, rfl⟩
theorem read_calls (A : Option Addr) (n c : Nat) (xs : List Int) (w : World) (hr : Rd w .u8 A n xs) (hc : n ≤ c) (h0 : A = none → c = 0) :
    Calls Try.prog 155 #[.slice A n c] w fun e w' => e = .returned (.pointer (some ⟨w.heap.size, 0, Option.none⟩)) ∧ Reader w' w.heap.size xs false ∧ Below w.heap.size w w' := by
  have HR := Lib.hid hr
  clear hr
  go_enter Try.func155, Try.ntmps155
  go_wp2
  go_ret
  exact ⟨rfl, ⟨A, n, c, at_new _ _, HR.out.below (below_new _ _), hc, h0⟩, below_new _ _⟩
theorem writer_new (S : Nat → Prop) (w : World) (hS : S w.heap.size) : Writer (w.alloc (.cells #[.slice Option.none 0 0] 190)) S w.heap.size [] :=
  ⟨Option.none, 0, 0, at_new _ _, Own.nil _ _ _ _, hS, by simp⟩
theorem Writer.wf {w : World} {S : Nat → Prop} {g : Nat} {xs : List Int} (h : Writer w S g xs) : ∀ x ∈ xs, (Lit.int .u8 x).wf = true := by obtain ⟨_, _, _, h⟩ := h; exact h.wf
theorem Writer.chg {w w' : World} {S S' : Nat → Prop} {g : Nat} {xs : List Int} (h : Writer w S g xs) (hg : Chg S' w w') (hd : ∀ i, S i → ¬ S' i) : Writer w' S g xs := by
  obtain ⟨A, n, c, h⟩ := h
  exact ⟨A, n, c, h.chg hg hd⟩
theorem Writer.below {w w' : World} {S : Nat → Prop} {g : Nat} {xs : List Int} (h : Writer w S g xs) (hb : Below w.heap.size w w') : Writer w' S g xs := h.chg (S' := fun _ => False) (Below.chg hb) (fun _ _ h => h)
end Go.Proofs.Ytipmkddcdnbihaa.Pack
/- A region that draws its order, walked once in the order of the text: its calls may lay memory and answer values that hang on it. No program in sight. -/
namespace Go.Proofs.Ytipmkddcdnbihaa.Lex

/-- What is known of an operation's value, and what it reads as in a world. -/
structure Loose where
  T : Value → Prop
  R : Value → World → Prop

section
variable {P : Program} {ops : Array Oper} {md : Region.Mode} {E : World → World → Prop} {w0 : World} {sp : Nat → Option Loose} {Q : Exit → Act → World → Prop}

/-- Does operation k wait for operation j? -/
def reach (md : Region.Mode) (ops : Array Oper) : Nat → Nat → Nat → Bool
  | 0, _, _ => false
  | n + 1, k, j => match ops[k]? with
    | none => false
    | some o => o.after.any fun e => Region.binds md e && (e.on == j || reach md ops n e.on j)
def dep (md : Region.Mode) (ops : Array Oper) (k j : Nat) : Bool := reach md ops ops.size k j

def upd (F : Nat → World → Prop) (j : Nat) (r : World → Prop) : Nat → World → Prop := fun n W => F n W ∧ (n = j → r W)
/-- The worlds in which operation k may come up. -/
def Cls (md : Region.Mode) (ops : Array Oper) (E : World → World → Prop) (w0 : World) (k : Nat) (F : Nat → World → Prop) (W : World) : Prop := E w0 W ∧ ∀ j, dep md ops k j = true → F j W
def All (E : World → World → Prop) (w0 : World) (F : Nat → World → Prop) (W : World) : Prop := E w0 W ∧ ∀ j, F j W

def looseAt (P : Program) (E : World → World → Prop) (W : World) (s : Loose) : Result Next → Prop
  | .ok (.value v) W' => s.T v ∧ E W W' ∧ s.R v W'
  | .ok .skip W' => s.T undef ∧ E W W' ∧ s.R undef W'
  | .ok (.enter f args) W' => Calls P f args W' fun e W'' => ∃ v, e = .returned v ∧ s.T v ∧ E W W'' ∧ s.R v W''
  | _ => False

def stepL (P : Program) (md : Region.Mode) (ops : Array Oper) (E : World → World → Prop) (w0 : World) (sp : Nat → Option Loose) (j : Nat) (o : Oper) (K : Act → (Nat → World → Prop) → Prop) (a : Act) (F : Nat → World → Prop) : Prop :=
  if Region.wanted o (yielded ops a.tmps) = true then
    match sp j with
    | none => ∃ v, (∀ W, Cls md ops E w0 j F W → (execOp a.eval o).run P W = .ok (.value v) W) ∧ K (a.put o.dst v) F
    | some s => (∀ W, Cls md ops E w0 j F W → looseAt P E W s ((execOp a.eval o).run P W)) ∧ ∀ v, s.T v → (∃ W, All E w0 (upd F j (s.R v)) W) → K (a.put o.dst v) (upd F j (s.R v))
  else K (a.put o.dst undef) F
def opL (P : Program) (md : Region.Mode) (ops : Array Oper) (E : World → World → Prop) (w0 : World) (sp : Nat → Option Loose) (j : Nat) (K : Act → (Nat → World → Prop) → Prop) (a : Act) (F : Nat → World → Prop) : Prop :=
  match ops[j]? with
  | none => K a F
  | some o => stepL P md ops E w0 sp j o K a F
def anyL (P : Program) (md : Region.Mode) (ops : Array Oper) (E : World → World → Prop) (w0 : World) (sp : Nat → Option Loose) (Q : Exit → Act → World → Prop) : Nat → Array Bool → Act → (Nat → World → Prop) → Prop
  | 0, listed, a, F => Region.ready md ops listed = [] ∧ ∀ W, All E w0 F W → Q .normal a W
  | fuel + 1, listed, a, F => (Region.ready md ops listed = [] → ∀ W, All E w0 F W → Q .normal a W) ∧
    ∀ j ∈ Region.ready md ops listed, opL P md ops E w0 sp j (anyL P md ops E w0 sp Q fuel (listed.setIfInBounds j true)) a F
def lexL (P : Program) (md : Region.Mode) (ops : Array Oper) (E : World → World → Prop) (w0 : World) (sp : Nat → Option Loose) (Q : Exit → Act → World → Prop) : Nat → List Oper → Act → (Nat → World → Prop) → Prop
  | _, [], a, F => ∀ W, All E w0 F W → Q .normal a W
  | k, o :: rest, a, F => stepL P md ops E w0 sp k o (lexL P md ops E w0 sp Q (k + 1) rest) a F

def StF (E : World → World → Prop) (F : Nat → World → Prop) : Prop := ∀ n W W', F n W → E W W' → F n W'
theorem StF.upd {F : Nat → World → Prop} (h : StF E F) {j : Nat} {r : World → Prop} (hr : ∀ W W', r W → E W W' → r W') : StF E (upd F j r) :=
  fun n W W' hf he => ⟨h n W W' hf.1 he, fun e => hr W W' (hf.2 e) he⟩
theorem All.cls {k : Nat} {F : Nat → World → Prop} {W : World} (h : All E w0 F W) : Cls md ops E w0 k F W := ⟨h.1, fun j _ => h.2 j⟩
theorem All.step (hE : ∀ a b c, E a b → E b c → E a c) {F : Nat → World → Prop} (hF : StF E F) {W W' : World} (h : All E w0 F W) (he : E W W') : All E w0 F W' :=
  ⟨hE _ _ _ h.1 he, fun j => hF j _ _ (h.2 j) he⟩
theorem All.upd {F : Nat → World → Prop} {W : World} (h : All E w0 F W) {j : Nat} {r : World → Prop} (hr : r W) : All E w0 (upd F j r) W := ⟨h.1, fun n => ⟨h.2 n, fun _ => hr⟩⟩
theorem upd_comm (F : Nat → World → Prop) (i j : Nat) (r s : World → Prop) : upd (upd F i r) j s = upd (upd F j s) i r := by
  funext n W
  simp only [upd, and_assoc]
  rw [and_comm (a := n = i → r W)]
theorem cls_upd {k i : Nat} {F : Nat → World → Prop} {r : World → Prop} (h : dep md ops k i = false) (W : World) : Cls md ops E w0 k (upd F i r) W ↔ Cls md ops E w0 k F W :=
  ⟨fun hc => ⟨hc.1, fun j hj => (hc.2 j hj).1⟩, fun hc => ⟨hc.1, fun j hj => ⟨hc.2 j hj, fun e => by subst e; rw [h] at hj; cases hj⟩⟩⟩

theorem calls_some {f : FuncId} {args : Array Value} {w : World} {R : Ending → World → Prop} (h : Calls P f args w R) : ∃ e w', R e w' := by
  obtain ⟨e, w', _, hr, _⟩ := h []
  exact ⟨e, w', hr⟩

theorem any_of (hE : ∀ a b c, E a b → E b c → E a c) (hR : ∀ j s, sp j = some s → ∀ v W W', s.R v W → E W W' → s.R v W') :
    ∀ (fuel : Nat) (listed : Array Bool) (a : Act) (F : Nat → World → Prop) (W : World), StF E F → All E w0 F W → anyL P md ops E w0 sp Q fuel listed a F → wpAny P md ops Q fuel listed a W
  | 0, _, _, _, W, _, hW, h => ⟨h.1, h.2 W hW⟩
  | fuel + 1, listed, a, F, W, hF, hW, h => by
    refine ⟨fun h0 => h.1 h0 W hW, fun j hj => ?_⟩
    have h1 := h.2 j hj
    unfold opL at h1
    unfold wpOp
    cases ho : ops[j]? with
    | none => simp only [ho] at h1 ⊢; exact any_of hE hR fuel _ _ _ _ hF hW h1
    | some o =>
      simp only [ho] at h1 ⊢
      unfold stepL at h1
      by_cases hw : Region.wanted o (yielded ops a.tmps) = true
      · simp only [hw, if_true] at h1 ⊢
        refine .inl ?_
        unfold Oper.wp
        cases hs : sp j with
        | none =>
          simp only [hs] at h1
          obtain ⟨v, hv, hk⟩ := h1
          rw [hv W hW.cls]
          exact any_of hE hR fuel _ _ _ _ hF hW hk
        | some s =>
          simp only [hs] at h1
          obtain ⟨hv, hk⟩ := h1
          have h2 := hv W hW.cls
          have hFs : ∀ v, StF E (upd F j (s.R v)) := fun v => hF.upd (hR j s hs v)
          generalize (execOp a.eval o).run P W = r at h2 ⊢
          cases r with
          | ok n W' =>
            cases n <;> simp only [looseAt] at h2 <;> simp only [Oper.upon]
            case value v =>
              obtain ⟨hT, he, hr⟩ := h2
              have hA := (hW.step hE hF he).upd (j := j) (r := s.R v) hr
              exact any_of hE hR fuel _ _ _ _ (hFs v) hA (hk v hT ⟨_, hA⟩)
            case skip =>
              obtain ⟨hT, he, hr⟩ := h2
              have hA := (hW.step hE hF he).upd (j := j) (r := s.R undef) hr
              exact any_of hE hR fuel _ _ _ _ (hFs undef) hA (hk undef hT ⟨_, hA⟩)
            case enter f args =>
              refine h2.mono fun e W'' ⟨v, hev, hT, he, hr⟩ => ?_
              subst hev
              have hA := (hW.step hE hF he).upd (j := j) (r := s.R v) hr
              exact any_of hE hR fuel _ _ _ _ (hFs v) hA (hk v hT ⟨_, hA⟩)
          | halt x W' => simp only [looseAt] at h2
      · simp only [hw] at h1 ⊢
        exact any_of hE hR fuel _ _ _ _ hF hW h1

def Closed (md : Region.Mode) (ops : Array Oper) (listed : Array Bool) : Prop :=
  ∀ k o, ops[k]? = some o → listed.getD k false = true → ∀ e ∈ o.after, Region.binds md e = true → listed.getD e.on false = true
theorem Closed.set {listed : Array Bool} (h : Closed md ops listed) {i : Nat} (hi : i ∈ Region.ready md ops listed) : Closed md ops (listed.setIfInBounds i true) := by
  intro k o ho hk e he hb
  by_cases hki : i = k
  · subst hki
    obtain ⟨_, o', ho', hall⟩ := mem_ready.1 hi
    rw [ho] at ho'
    cases ho'
    exact getD_set_true (hall e he hb)
  · rw [getD_set_ne false hki] at hk
    exact getD_set_true (h k o ho hk e he hb)
theorem reach_listed {listed : Array Bool} (h : Closed md ops listed) : ∀ (n k j : Nat), (∀ o, ops[k]? = some o → ∀ e ∈ o.after, Region.binds md e = true → listed.getD e.on false = true) → reach md ops n k j = true → listed.getD j false = true
  | 0, _, _, _, hr => by simp [reach] at hr
  | n + 1, k, j, hk, hr => by
    unfold reach at hr
    cases ho : ops[k]? with
    | none => simp [ho] at hr
    | some o =>
      simp only [ho] at hr
      obtain ⟨e, he, hb⟩ := Array.any_eq_true'.1 hr
      simp only [Bool.and_eq_true, Bool.or_eq_true, beq_iff_eq] at hb
      obtain ⟨hb1, hb2⟩ := hb
      have h1 := hk o ho e he hb1
      rcases hb2 with rfl | hb2
      · exact h1
      · exact reach_listed h n e.on j (fun o' ho' => h e.on o' ho' h1) hb2
theorem not_dep {listed : Array Bool} (h : Closed md ops listed) {j i : Nat} (hj : j ∈ Region.ready md ops listed) (hi : listed.getD i true = false) : dep md ops j i = false := by
  cases hd : dep md ops j i with
  | false => rfl
  | true =>
    obtain ⟨_, o, ho, hall⟩ := mem_ready.1 hj
    have h1 := reach_listed h _ j i (fun o' ho' => by rw [ho] at ho'; cases ho'; exact hall) hd
    rcases Nat.lt_or_ge i listed.size with h' | h'
    · simp [h'] at h1 hi
      rw [hi] at h1
      cases h1
    · simp [Array.getElem?_eq_none h'] at hi

/-- An operation that may be taken first. -/
theorem anyL_first (hE : ∀ a b c, E a b → E b c → E a c) (hR : ∀ j s, sp j = some s → ∀ v W W', s.R v W → E W W' → s.R v W') {i : Nat} {oi : Oper} (hi : ops[i]? = some oi) (hsel : ∀ (j : Nat) (o : Oper) cs b, ops[j]? = some o → o.op ≠ .select cs b) :
    ∀ (fuel : Nat) (listed : Array Bool) (a : Act) (F : Nat → World → Prop), Closed md ops listed → StF E F → (∃ W, All E w0 F W) →
      (∀ j oj, ops[j]? = some oj → j ≠ i → listed.getD j true = false → (∀ e ∈ oj.after, Region.binds md e = true → e.on ≠ i) → oi.apart ops oj = true) →
      i ∈ Region.ready md ops listed →
      stepL P md ops E w0 sp i oi (anyL P md ops E w0 sp Q fuel (listed.setIfInBounds i true)) a F → anyL P md ops E w0 sp Q (fuel + 1) listed a F := by
  intro fuel
  induction fuel with
  | zero =>
    intro listed a F hcl hF hex hfree hr H
    refine ⟨fun h => (by rw [h] at hr; cases hr), fun j hj => ?_⟩
    by_cases hji : j = i
    · subst hji
      unfold opL
      simp only [hi]
      exact H
    · exfalso
      have h1 := ready_mono hj hji
      have h2 : ∃ a F, anyL P md ops E w0 sp Q 0 (listed.setIfInBounds i true) a F := by
        unfold stepL at H
        by_cases hw : Region.wanted oi (yielded ops a.tmps) = true
        · simp only [hw, if_true] at H
          cases hs : sp i with
          | none => simp only [hs] at H; obtain ⟨v, _, hk⟩ := H; exact ⟨_, _, hk⟩
          | some s =>
            simp only [hs] at H
            obtain ⟨hv, hk⟩ := H
            obtain ⟨W, hW⟩ := hex
            have h3 := hv W hW.cls
            generalize (execOp a.eval oi).run P W = r at h3
            cases r with
            | ok n W' =>
              cases n <;> simp only [looseAt] at h3
              case value v => exact ⟨_, _, hk v h3.1 ⟨_, (hW.step hE hF h3.2.1).upd h3.2.2⟩⟩
              case skip => exact ⟨_, _, hk undef h3.1 ⟨_, (hW.step hE hF h3.2.1).upd h3.2.2⟩⟩
              case enter f args =>
                obtain ⟨e, W'', v, _, hT, he, hr⟩ := calls_some h3
                exact ⟨_, _, hk v hT ⟨_, (hW.step hE hF he).upd hr⟩⟩
            | halt x W' => simp only [looseAt] at h3
        · simp only [hw] at H
          exact ⟨_, _, H⟩
      obtain ⟨_, _, h2⟩ := h2
      rw [h2.1] at h1
      cases h1
  | succ fuel ih =>
    intro listed a F hcl hF hex hfree hr H
    refine ⟨fun h => (by rw [h] at hr; cases hr), fun j hj => ?_⟩
    by_cases hji : j = i
    · subst hji
      unfold opL
      simp only [hi]
      exact H
    · obtain ⟨hjun, oj, hoj, hall⟩ := mem_ready.1 hj
      have hiun := (mem_ready.1 hr).1
      have hnot : ∀ e ∈ oj.after, Region.binds md e = true → e.on ≠ i := fun e he hb heq => by
        have h1 := hall e he hb
        rw [heq] at h1
        rcases Nat.lt_or_ge i listed.size with h' | h'
        · simp [h'] at hiun h1; rw [hiun] at h1; cases h1
        · simp [Array.getElem?_eq_none h'] at h1
      have hap := hfree j oj hoj hji hjun hnot
      obtain ⟨p1, p2, p3⟩ := Oper.apart_spec hap
      have hsi : ∀ cs b, oi.op ≠ .select cs b := fun cs b => hsel i oi cs b hi
      have hsj : ∀ cs b, oj.op ≠ .select cs b := fun cs b => hsel j oj cs b hoj
      have hdep : dep md ops j i = false := not_dep hcl hj hiun
      have hdep2 : dep md ops i j = false := not_dep hcl hr hjun
      have hcl2 := hcl.set hj
      have hfree' : ∀ k ok, ops[k]? = some ok → k ≠ i → (listed.setIfInBounds j true).getD k true = false →
          (∀ e ∈ ok.after, Region.binds md e = true → e.on ≠ i) → oi.apart ops ok = true := fun k ok hk hki hun hno => by
        refine hfree k ok hk hki ?_ hno
        by_cases hjk : j = k
        · subst hjk; exact hjun
        · rw [getD_set_ne true hjk] at hun; exact hun
      have hr2 := ready_mono hr (Ne.symm hji)
      have hjr := ready_mono hj hji
      -- what i's step says, at each of its values: j's step behind it
      have hsw : (listed.setIfInBounds j true).setIfInBounds i true = (listed.setIfInBounds i true).setIfInBounds j true := Array.setIfInBounds_comm _ _ hji
      obtain ⟨W, hW⟩ := hex
      unfold opL
      simp only [hoj]
      -- i's step anew, behind j's value u and facts F'
      have again : ∀ (u : Value) (F' : Nat → World → Prop), (∀ W, Cls md ops E w0 i F' W → Cls md ops E w0 i F W) → 
          (∀ v G, (sp i = none ∨ Region.wanted oi (yielded ops a.tmps) = false) → G = F' → anyL P md ops E w0 sp Q (fuel + 1) (listed.setIfInBounds i true) (a.put oi.dst v) F → anyL P md ops E w0 sp Q fuel ((listed.setIfInBounds i true).setIfInBounds j true) ((a.put oi.dst v).put oj.dst u) G) →
          (∀ v s, sp i = some s → (∃ W, All E w0 (upd F' i (s.R v)) W) → (∃ W, All E w0 (upd F i (s.R v)) W) ∧ (anyL P md ops E w0 sp Q (fuel + 1) (listed.setIfInBounds i true) (a.put oi.dst v) (upd F i (s.R v)) → anyL P md ops E w0 sp Q fuel ((listed.setIfInBounds i true).setIfInBounds j true) ((a.put oi.dst v).put oj.dst u) (upd F' i (s.R v)))) →
          stepL P md ops E w0 sp i oi (anyL P md ops E w0 sp Q fuel ((listed.setIfInBounds j true).setIfInBounds i true)) (a.put oj.dst u) F' := by
        intro u F' hc hq hl
        unfold stepL at H ⊢
        rw [wanted_put oi a oj.dst u p3, execOp_put oi hsi a oj.dst u p3, hsw]
        by_cases hw : Region.wanted oi (yielded ops a.tmps) = true
        · simp only [hw, if_true] at H ⊢
          cases hs : sp i with
          | none =>
            simp only [hs] at H
            obtain ⟨v, hv, hk⟩ := H
            refine ⟨v, fun W hW => hv W (hc W hW), ?_⟩
            rw [← Act.put_comm a v u p2]
            exact hq v F' (.inl hs) rfl hk
          | some s =>
            simp only [hs] at H
            obtain ⟨hv, hk⟩ := H
            refine ⟨fun W hW => hv W (hc W hW), fun v hT hx => ?_⟩
            rw [← Act.put_comm a v u p2]
            obtain ⟨hx', hl'⟩ := hl v s hs hx
            exact hl' (hk v hT hx')
        · simp only [hw] at H ⊢
          rw [← Act.put_comm a undef u p2]
          exact hq undef F' (.inr (by simpa using hw)) rfl H
      -- one value of i at the least, with a world
      have some_i : ∃ v G, (G = F ∨ ∃ s, sp i = some s ∧ G = upd F i (s.R v)) ∧ anyL P md ops E w0 sp Q (fuel + 1) (listed.setIfInBounds i true) (a.put oi.dst v) G := by
        unfold stepL at H
        by_cases hw : Region.wanted oi (yielded ops a.tmps) = true
        · simp only [hw, if_true] at H
          cases hs : sp i with
          | none => simp only [hs] at H; obtain ⟨v, _, hk⟩ := H; exact ⟨_, _, .inl rfl, hk⟩
          | some s =>
            simp only [hs] at H
            obtain ⟨hv, hk⟩ := H
            have h3 := hv W hW.cls
            generalize (execOp a.eval oi).run P W = r at h3
            cases r with
            | ok n W' =>
              cases n <;> simp only [looseAt] at h3
              case value v => exact ⟨_, _, .inr ⟨s, rfl, rfl⟩, hk v h3.1 ⟨_, (hW.step hE hF h3.2.1).upd h3.2.2⟩⟩
              case skip => exact ⟨_, _, .inr ⟨s, rfl, rfl⟩, hk undef h3.1 ⟨_, (hW.step hE hF h3.2.1).upd h3.2.2⟩⟩
              case enter f args =>
                obtain ⟨e, W'', v, _, hT, he, hr⟩ := calls_some h3
                exact ⟨_, _, .inr ⟨s, rfl, rfl⟩, hk v hT ⟨_, (hW.step hE hF he).upd hr⟩⟩
            | halt x W' => simp only [looseAt] at h3
        · simp only [hw] at H
          exact ⟨_, _, .inl rfl, H⟩
      have clsj : ∀ (v : Value) (G : Nat → World → Prop), (G = F ∨ ∃ s, sp i = some s ∧ G = upd F i (s.R v)) → ∀ W, Cls md ops E w0 j F W → Cls md ops E w0 j G W := by
        rintro v G (rfl | ⟨s, _, rfl⟩) W h
        · exact h
        · exact (cls_upd hdep W).2 h
      have stepj : ∀ (v : Value) (G : Nat → World → Prop), anyL P md ops E w0 sp Q (fuel + 1) (listed.setIfInBounds i true) (a.put oi.dst v) G →
          stepL P md ops E w0 sp j oj (anyL P md ops E w0 sp Q fuel ((listed.setIfInBounds i true).setIfInBounds j true)) (a.put oi.dst v) G := by
        intro v G h
        have := h.2 j hjr
        unfold opL at this
        simpa only [hoj] using this
      obtain ⟨v0, G0, hG0, h0⟩ := some_i
      have h0j := stepj v0 G0 h0
      unfold stepL at h0j ⊢
      rw [wanted_put oj a oi.dst v0 p1, execOp_put oj hsj a oi.dst v0 p1] at h0j
      by_cases hw : Region.wanted oj (yielded ops a.tmps) = true
      · simp only [hw, if_true] at h0j ⊢
        cases hs : sp j with
        | none =>
          simp only [hs] at h0j
          obtain ⟨u, hu, _⟩ := h0j
          have hu' : ∀ W, Cls md ops E w0 j F W → (execOp a.eval oj).run P W = .ok (.value u) W := fun W h => hu W (clsj v0 G0 hG0 W h)
          have key : ∀ (v : Value) (G : Nat → World → Prop), (G = F ∨ ∃ s, sp i = some s ∧ G = upd F i (s.R v)) → anyL P md ops E w0 sp Q (fuel + 1) (listed.setIfInBounds i true) (a.put oi.dst v) G →
              anyL P md ops E w0 sp Q fuel ((listed.setIfInBounds i true).setIfInBounds j true) ((a.put oi.dst v).put oj.dst u) G := by
            intro v G hG h
            have hj2 := stepj v G h
            unfold stepL at hj2
            rw [wanted_put oj a oi.dst v p1, execOp_put oj hsj a oi.dst v p1] at hj2
            simp only [hw, if_true, hs] at hj2
            obtain ⟨u2, hu2, hk2⟩ := hj2
            have e1 := hu2 W (clsj v G hG W hW.cls)
            rw [hu' W hW.cls] at e1
            injection e1 with e1 _
            injection e1 with e1
            subst e1
            exact hk2
          refine ⟨u, hu', ih (listed.setIfInBounds j true) (a.put oj.dst u) F hcl2 hF ⟨W, hW⟩ hfree' hr2 (again u F (fun _ h => h) ?_ ?_)⟩
          · intro v G _ hG h
            subst hG
            exact key v _ (.inl rfl) h
          · intro v s hsi hx
            exact ⟨hx, fun h => key v _ (.inr ⟨s, hsi, rfl⟩) h⟩
        | some s =>
          simp only [hs] at h0j
          obtain ⟨hv0, _⟩ := h0j
          refine ⟨fun W h => hv0 W (clsj v0 G0 hG0 W h), fun u hT hx => ih (listed.setIfInBounds j true) (a.put oj.dst u) _ hcl2 (hF.upd (hR j s hs u)) hx hfree' hr2 (again u _ (fun W h => (cls_upd hdep2 W).1 h) ?_ ?_)⟩
          · intro v G _ hG h
            subst hG
            have hj2 := stepj v F h
            unfold stepL at hj2
            rw [wanted_put oj a oi.dst v p1, execOp_put oj hsj a oi.dst v p1] at hj2
            simp only [hw, if_true, hs] at hj2
            exact hj2.2 u hT hx
          · intro v t ht hx2
            obtain ⟨W2, hW2⟩ := hx2
            refine ⟨⟨W2, hW2.1, fun n => ⟨(hW2.2 n).1.1, (hW2.2 n).2⟩⟩, fun h => ?_⟩
            have hj2 := stepj v _ h
            unfold stepL at hj2
            rw [wanted_put oj a oi.dst v p1, execOp_put oj hsj a oi.dst v p1] at hj2
            simp only [hw, if_true, hs] at hj2
            have := hj2.2 u hT ⟨W2, by rw [upd_comm]; exact hW2⟩
            rwa [upd_comm] at this
      · simp only [hw]
        have key : ∀ (v : Value) (G : Nat → World → Prop), anyL P md ops E w0 sp Q (fuel + 1) (listed.setIfInBounds i true) (a.put oi.dst v) G →
            anyL P md ops E w0 sp Q fuel ((listed.setIfInBounds i true).setIfInBounds j true) ((a.put oi.dst v).put oj.dst undef) G := by
          intro v G h
          have hj2 := stepj v G h
          unfold stepL at hj2
          rw [wanted_put oj a oi.dst v p1] at hj2
          rwa [if_neg hw] at hj2
        refine ih (listed.setIfInBounds j true) (a.put oj.dst undef) F hcl2 hF ⟨W, hW⟩ hfree' hr2 (again undef F (fun _ h => h) ?_ ?_)
        · intro v G _ hG h
          subst hG
          exact key v _ h
        · intro v s _ hx
          exact ⟨hx, fun h => key v _ h⟩

theorem anyL_lex (hE : ∀ a b c, E a b → E b c → E a c) (hR : ∀ j s, sp j = some s → ∀ v W W', s.R v W → E W W' → s.R v W') (hs : Region.noSelect ops = true) :
    ∀ (l : List Oper) (k : Nat) (listed : Array Bool) (a : Act) (F : Nat → World → Prop), (∀ j, l[j]? = ops[k + j]?) → Closed md ops listed → StF E F → (∃ W, All E w0 F W) →
    Region.lexFrom md ops l.length k listed = true → lexL P md ops E w0 sp Q k l a F → anyL P md ops E w0 sp Q l.length listed a F
  | [], _, _, _, _, _, _, _, _, hB, h => ⟨by simpa [Region.lexFrom] using hB, h⟩
  | o :: l, k, listed, a, F, hl, hcl, hF, hex, hB, h => by
    have h0 : ops[k]? = some o := by simpa using (hl 0).symm
    simp only [List.length_cons, Region.lexFrom, Bool.and_eq_true] at hB
    obtain ⟨⟨hr, hf⟩, hB'⟩ := hB
    have hr' : k ∈ Region.ready md ops listed := by simpa using hr
    have hl' : ∀ j, l[j]? = ops[k + 1 + j]? := fun j => by have := hl (j + 1); simpa [Nat.add_assoc, Nat.add_comm 1 j] using this
    refine anyL_first hE hR h0 (Region.noSelect_spec hs) l.length listed a F hcl hF hex (Region.free_spec h0 hf) hr' ?_
    unfold lexL at h
    unfold stepL at h ⊢
    by_cases hw : Region.wanted o (yielded ops a.tmps) = true
    · simp only [hw, if_true] at h ⊢
      cases hsp : sp k with
      | none =>
        simp only [hsp] at h
        obtain ⟨v, hv, hk⟩ := h
        exact ⟨v, hv, anyL_lex hE hR hs l (k + 1) _ _ F hl' (hcl.set hr') hF hex hB' hk⟩
      | some s =>
        simp only [hsp] at h
        exact ⟨h.1, fun v hT hx => anyL_lex hE hR hs l (k + 1) _ _ _ hl' (hcl.set hr') (hF.upd (hR k s hsp v)) hx hB' (h.2 v hT hx)⟩
    · rw [if_neg hw] at h ⊢
      exact anyL_lex hE hR hs l (k + 1) _ _ F hl' (hcl.set hr') hF hex hB' h

/-- A region that draws its order, walked once in the order of the text. -/
theorem wp_region_lex {id : Nat} {a : Act} {w : World} {l : List Oper} (E : World → World → Prop) (sp : Nat → Option Loose) (hm : P.follows .mixedOrders = true) (hB : Region.lexB .any l.toArray = true) (h0 : ∀ a, E a a) (hE : ∀ a b c, E a b → E b c → E a c)
    (hR : ∀ j s, sp j = some s → ∀ v W W', s.R v W → E W W' → s.R v W')
    (h : lexL P .any l.toArray E w.drew sp Q 0 l a (fun _ _ => True)) : (Code.region id l.toArray true).wp P Q a w := by
  simp only [Region.lexB, Bool.and_eq_true] at hB
  refine wp_region_any hm (any_of hE hR _ _ _ (fun _ _ => True) _ (fun _ _ _ _ _ => trivial) (w0 := w.drew) (E := E) (sp := sp) ⟨h0 _, fun _ => trivial⟩ ?_)
  have := anyL_lex (md := .any) (Q := Q) (P := P) (w0 := w.drew) hE hR hB.1 l 0 (Array.replicate l.toArray.size false) a (fun _ _ => True) (by simp)
    (fun k o _ hk => by
      exfalso
      rcases Nat.lt_or_ge k l.length with h | h
      · simp [h] at hk
      · simp [h] at hk) (fun _ _ _ _ _ => trivial) ⟨w.drew, h0 _, fun _ => trivial⟩ (by simpa using hB.2) h
  simpa using this
/-- As anyL; behind the first n operations: L. -/
def anyT (P : Program) (md : Region.Mode) (ops : Array Oper) (E : World → World → Prop) (w0 : World) (sp : Nat → Option Loose) (n : Nat) (L : Array Bool → Act → (Nat → World → Prop) → Prop) : Nat → Array Bool → Act → (Nat → World → Prop) → Prop
  | 0, listed, a, F => L listed a F
  | fuel + 1, listed, a, F => Region.ready md ops listed ≠ [] ∧ ∀ j ∈ Region.ready md ops listed, j < n ∧ opL P md ops E w0 sp j (anyT P md ops E w0 sp n L fuel (listed.setIfInBounds j true)) a F
theorem any_ofT {n g : Nat} {L : Array Bool → Act → (Nat → World → Prop) → Prop} (hL : ∀ listed a F W, L listed a F → All E w0 F W → wpAny P md ops Q g listed a W) (hE : ∀ a b c, E a b → E b c → E a c) (hR : ∀ j s, sp j = some s → ∀ v W W', s.R v W → E W W' → s.R v W') :
    ∀ (fuel : Nat) (listed : Array Bool) (a : Act) (F : Nat → World → Prop) (W : World), StF E F → All E w0 F W → anyT P md ops E w0 sp n L fuel listed a F → wpAny P md ops Q (fuel + g) listed a W
  | 0, _, _, _, W, _, hW, h => by rw [Nat.zero_add]; exact hL _ _ _ _ h hW
  | fuel + 1, listed, a, F, W, hF, hW, h => by
    rw [show fuel + 1 + g = (fuel + g) + 1 by omega]
    refine ⟨fun h0 => absurd h0 h.1, fun j hj => ?_⟩
    have h1 := (h.2 j hj).2
    unfold opL at h1
    unfold wpOp
    cases ho : ops[j]? with
    | none => simp only [ho] at h1 ⊢; exact any_ofT hL hE hR fuel _ _ _ _ hF hW h1
    | some o =>
      simp only [ho] at h1 ⊢
      unfold stepL at h1
      by_cases hw : Region.wanted o (yielded ops a.tmps) = true
      · simp only [hw, if_true] at h1 ⊢
        refine .inl ?_
        unfold Oper.wp
        cases hs : sp j with
        | none =>
          simp only [hs] at h1
          obtain ⟨v, hv, hk⟩ := h1
          rw [hv W hW.cls]
          exact any_ofT hL hE hR fuel _ _ _ _ hF hW hk
        | some s =>
          simp only [hs] at h1
          obtain ⟨hv, hk⟩ := h1
          have h2 := hv W hW.cls
          have hFs : ∀ v, StF E (upd F j (s.R v)) := fun v => hF.upd (hR j s hs v)
          generalize (execOp a.eval o).run P W = r at h2 ⊢
          cases r with
          | ok n W' =>
            cases n <;> simp only [looseAt] at h2 <;> simp only [Oper.upon]
            case value v =>
              obtain ⟨hT, he, hr⟩ := h2
              have hA := (hW.step hE hF he).upd (j := j) (r := s.R v) hr
              exact any_ofT hL hE hR fuel _ _ _ _ (hFs v) hA (hk v hT ⟨_, hA⟩)
            case skip =>
              obtain ⟨hT, he, hr⟩ := h2
              have hA := (hW.step hE hF he).upd (j := j) (r := s.R undef) hr
              exact any_ofT hL hE hR fuel _ _ _ _ (hFs undef) hA (hk undef hT ⟨_, hA⟩)
            case enter f args =>
              refine h2.mono fun e W'' ⟨v, hev, hT, he, hr⟩ => ?_
              subst hev
              have hA := (hW.step hE hF he).upd (j := j) (r := s.R v) hr
              exact any_ofT hL hE hR fuel _ _ _ _ (hFs v) hA (hk v hT ⟨_, hA⟩)
          | halt x W' => simp only [looseAt] at h2
      · simp only [hw] at h1 ⊢
        exact any_ofT hL hE hR fuel _ _ _ _ hF hW h1

/-- An operation that may be taken first. -/
theorem anyT_first {n : Nat} {L : Array Bool → Act → (Nat → World → Prop) → Prop} (hs0 : Region.sinkB md ops n = true) (hc0 : Region.chainB md ops n = true) (hn0 : n < ops.size) (hdone : ∀ listed a F, L listed a F → ∀ j ∈ Region.ready md ops listed, n ≤ j) (hE : ∀ a b c, E a b → E b c → E a c) (hR : ∀ j s, sp j = some s → ∀ v W W', s.R v W → E W W' → s.R v W') {i : Nat} {oi : Oper} (hin : i < n) (hi : ops[i]? = some oi) (hsel : ∀ (j : Nat) (o : Oper) cs b, ops[j]? = some o → o.op ≠ .select cs b) :
    ∀ (fuel : Nat) (listed : Array Bool) (a : Act) (F : Nat → World → Prop), HeadInv md ops n listed → StF E F → (∃ W, All E w0 F W) →
      (∀ j oj, ops[j]? = some oj → j ≠ i → listed.getD j true = false → (∀ e ∈ oj.after, Region.binds md e = true → e.on ≠ i) → oi.apart ops oj = true) →
      i ∈ Region.ready md ops listed →
      stepL P md ops E w0 sp i oi (anyT P md ops E w0 sp n L fuel (listed.setIfInBounds i true)) a F → anyT P md ops E w0 sp n L (fuel + 1) listed a F := by
  intro fuel
  induction fuel with
  | zero =>
    intro listed a F hcl hF hex hfree hr H
    refine ⟨fun h => (by rw [h] at hr; cases hr), fun j hj => ?_⟩
    have hjn : j < n := by
      rcases Nat.lt_or_ge j n with h | h
      · exact h
      · exact absurd hj (tail_waits hs0 hc0 hn0 hcl _ i rfl hin (mem_ready.1 hr).1 j h)
    refine ⟨hjn, ?_⟩
    by_cases hji : j = i
    · subst hji
      unfold opL
      simp only [hi]
      exact H
    · exfalso
      have h1 := ready_mono hj hji
      have h2 : ∃ a F, L (listed.setIfInBounds i true) a F := by
        unfold stepL at H
        by_cases hw : Region.wanted oi (yielded ops a.tmps) = true
        · simp only [hw, if_true] at H
          cases hs : sp i with
          | none => simp only [hs] at H; obtain ⟨v, _, hk⟩ := H; exact ⟨_, _, hk⟩
          | some s =>
            simp only [hs] at H
            obtain ⟨hv, hk⟩ := H
            obtain ⟨W, hW⟩ := hex
            have h3 := hv W hW.cls
            generalize (execOp a.eval oi).run P W = r at h3
            cases r with
            | ok n W' =>
              cases n <;> simp only [looseAt] at h3
              case value v => exact ⟨_, _, hk v h3.1 ⟨_, (hW.step hE hF h3.2.1).upd h3.2.2⟩⟩
              case skip => exact ⟨_, _, hk undef h3.1 ⟨_, (hW.step hE hF h3.2.1).upd h3.2.2⟩⟩
              case enter f args =>
                obtain ⟨e, W'', v, _, hT, he, hr⟩ := calls_some h3
                exact ⟨_, _, hk v hT ⟨_, (hW.step hE hF he).upd hr⟩⟩
            | halt x W' => simp only [looseAt] at h3
        · simp only [hw] at H
          exact ⟨_, _, H⟩
      obtain ⟨_, _, h2⟩ := h2
      have := hdone _ _ _ h2 j h1
      omega
  | succ fuel ih =>
    intro listed a F hcl hF hex hfree hr H
    refine ⟨fun h => (by rw [h] at hr; cases hr), fun j hj => ?_⟩
    have hjn : j < n := by
      rcases Nat.lt_or_ge j n with h | h
      · exact h
      · exact absurd hj (tail_waits hs0 hc0 hn0 hcl _ i rfl hin (mem_ready.1 hr).1 j h)
    refine ⟨hjn, ?_⟩
    by_cases hji : j = i
    · subst hji
      unfold opL
      simp only [hi]
      exact H
    · obtain ⟨hjun, oj, hoj, hall⟩ := mem_ready.1 hj
      have hiun := (mem_ready.1 hr).1
      have hnot : ∀ e ∈ oj.after, Region.binds md e = true → e.on ≠ i := fun e he hb heq => by
        have h1 := hall e he hb
        rw [heq] at h1
        rcases Nat.lt_or_ge i listed.size with h' | h'
        · simp [h'] at hiun h1; rw [hiun] at h1; cases h1
        · simp [Array.getElem?_eq_none h'] at h1
      have hap := hfree j oj hoj hji hjun hnot
      obtain ⟨p1, p2, p3⟩ := Oper.apart_spec hap
      have hsi : ∀ cs b, oi.op ≠ .select cs b := fun cs b => hsel i oi cs b hi
      have hsj : ∀ cs b, oj.op ≠ .select cs b := fun cs b => hsel j oj cs b hoj
      have hdep : dep md ops j i = false := not_dep hcl.closed hj hiun
      have hdep2 : dep md ops i j = false := not_dep hcl.closed hr hjun
      have hcl2 := hcl.set hj hjn
      have hfree' : ∀ k ok, ops[k]? = some ok → k ≠ i → (listed.setIfInBounds j true).getD k true = false →
          (∀ e ∈ ok.after, Region.binds md e = true → e.on ≠ i) → oi.apart ops ok = true := fun k ok hk hki hun hno => by
        refine hfree k ok hk hki ?_ hno
        by_cases hjk : j = k
        · subst hjk; exact hjun
        · rw [getD_set_ne true hjk] at hun; exact hun
      have hr2 := ready_mono hr (Ne.symm hji)
      have hjr := ready_mono hj hji
      -- what i's step says, at each of its values: j's step behind it
      have hsw : (listed.setIfInBounds j true).setIfInBounds i true = (listed.setIfInBounds i true).setIfInBounds j true := Array.setIfInBounds_comm _ _ hji
      obtain ⟨W, hW⟩ := hex
      unfold opL
      simp only [hoj]
      -- i's step anew, behind j's value u and facts F'
      have again : ∀ (u : Value) (F' : Nat → World → Prop), (∀ W, Cls md ops E w0 i F' W → Cls md ops E w0 i F W) → 
          (∀ v G, (sp i = none ∨ Region.wanted oi (yielded ops a.tmps) = false) → G = F' → anyT P md ops E w0 sp n L (fuel + 1) (listed.setIfInBounds i true) (a.put oi.dst v) F → anyT P md ops E w0 sp n L fuel ((listed.setIfInBounds i true).setIfInBounds j true) ((a.put oi.dst v).put oj.dst u) G) →
          (∀ v s, sp i = some s → (∃ W, All E w0 (upd F' i (s.R v)) W) → (∃ W, All E w0 (upd F i (s.R v)) W) ∧ (anyT P md ops E w0 sp n L (fuel + 1) (listed.setIfInBounds i true) (a.put oi.dst v) (upd F i (s.R v)) → anyT P md ops E w0 sp n L fuel ((listed.setIfInBounds i true).setIfInBounds j true) ((a.put oi.dst v).put oj.dst u) (upd F' i (s.R v)))) →
          stepL P md ops E w0 sp i oi (anyT P md ops E w0 sp n L fuel ((listed.setIfInBounds j true).setIfInBounds i true)) (a.put oj.dst u) F' := by
        intro u F' hc hq hl
        unfold stepL at H ⊢
        rw [wanted_put oi a oj.dst u p3, execOp_put oi hsi a oj.dst u p3, hsw]
        by_cases hw : Region.wanted oi (yielded ops a.tmps) = true
        · simp only [hw, if_true] at H ⊢
          cases hs : sp i with
          | none =>
            simp only [hs] at H
            obtain ⟨v, hv, hk⟩ := H
            refine ⟨v, fun W hW => hv W (hc W hW), ?_⟩
            rw [← Act.put_comm a v u p2]
            exact hq v F' (.inl hs) rfl hk
          | some s =>
            simp only [hs] at H
            obtain ⟨hv, hk⟩ := H
            refine ⟨fun W hW => hv W (hc W hW), fun v hT hx => ?_⟩
            rw [← Act.put_comm a v u p2]
            obtain ⟨hx', hl'⟩ := hl v s hs hx
            exact hl' (hk v hT hx')
        · simp only [hw] at H ⊢
          rw [← Act.put_comm a undef u p2]
          exact hq undef F' (.inr (by simpa using hw)) rfl H
      -- one value of i at the least, with a world
      have some_i : ∃ v G, (G = F ∨ ∃ s, sp i = some s ∧ G = upd F i (s.R v)) ∧ anyT P md ops E w0 sp n L (fuel + 1) (listed.setIfInBounds i true) (a.put oi.dst v) G := by
        unfold stepL at H
        by_cases hw : Region.wanted oi (yielded ops a.tmps) = true
        · simp only [hw, if_true] at H
          cases hs : sp i with
          | none => simp only [hs] at H; obtain ⟨v, _, hk⟩ := H; exact ⟨_, _, .inl rfl, hk⟩
          | some s =>
            simp only [hs] at H
            obtain ⟨hv, hk⟩ := H
            have h3 := hv W hW.cls
            generalize (execOp a.eval oi).run P W = r at h3
            cases r with
            | ok n W' =>
              cases n <;> simp only [looseAt] at h3
              case value v => exact ⟨_, _, .inr ⟨s, rfl, rfl⟩, hk v h3.1 ⟨_, (hW.step hE hF h3.2.1).upd h3.2.2⟩⟩
              case skip => exact ⟨_, _, .inr ⟨s, rfl, rfl⟩, hk undef h3.1 ⟨_, (hW.step hE hF h3.2.1).upd h3.2.2⟩⟩
              case enter f args =>
                obtain ⟨e, W'', v, _, hT, he, hr⟩ := calls_some h3
                exact ⟨_, _, .inr ⟨s, rfl, rfl⟩, hk v hT ⟨_, (hW.step hE hF he).upd hr⟩⟩
            | halt x W' => simp only [looseAt] at h3
        · simp only [hw] at H
          exact ⟨_, _, .inl rfl, H⟩
      have clsj : ∀ (v : Value) (G : Nat → World → Prop), (G = F ∨ ∃ s, sp i = some s ∧ G = upd F i (s.R v)) → ∀ W, Cls md ops E w0 j F W → Cls md ops E w0 j G W := by
        rintro v G (rfl | ⟨s, _, rfl⟩) W h
        · exact h
        · exact (cls_upd hdep W).2 h
      have stepj : ∀ (v : Value) (G : Nat → World → Prop), anyT P md ops E w0 sp n L (fuel + 1) (listed.setIfInBounds i true) (a.put oi.dst v) G →
          stepL P md ops E w0 sp j oj (anyT P md ops E w0 sp n L fuel ((listed.setIfInBounds i true).setIfInBounds j true)) (a.put oi.dst v) G := by
        intro v G h
        have := (h.2 j hjr).2
        unfold opL at this
        simpa only [hoj] using this
      obtain ⟨v0, G0, hG0, h0⟩ := some_i
      have h0j := stepj v0 G0 h0
      unfold stepL at h0j ⊢
      rw [wanted_put oj a oi.dst v0 p1, execOp_put oj hsj a oi.dst v0 p1] at h0j
      by_cases hw : Region.wanted oj (yielded ops a.tmps) = true
      · simp only [hw, if_true] at h0j ⊢
        cases hs : sp j with
        | none =>
          simp only [hs] at h0j
          obtain ⟨u, hu, _⟩ := h0j
          have hu' : ∀ W, Cls md ops E w0 j F W → (execOp a.eval oj).run P W = .ok (.value u) W := fun W h => hu W (clsj v0 G0 hG0 W h)
          have key : ∀ (v : Value) (G : Nat → World → Prop), (G = F ∨ ∃ s, sp i = some s ∧ G = upd F i (s.R v)) → anyT P md ops E w0 sp n L (fuel + 1) (listed.setIfInBounds i true) (a.put oi.dst v) G →
              anyT P md ops E w0 sp n L fuel ((listed.setIfInBounds i true).setIfInBounds j true) ((a.put oi.dst v).put oj.dst u) G := by
            intro v G hG h
            have hj2 := stepj v G h
            unfold stepL at hj2
            rw [wanted_put oj a oi.dst v p1, execOp_put oj hsj a oi.dst v p1] at hj2
            simp only [hw, if_true, hs] at hj2
            obtain ⟨u2, hu2, hk2⟩ := hj2
            have e1 := hu2 W (clsj v G hG W hW.cls)
            rw [hu' W hW.cls] at e1
            injection e1 with e1 _
            injection e1 with e1
            subst e1
            exact hk2
          refine ⟨u, hu', ih (listed.setIfInBounds j true) (a.put oj.dst u) F hcl2 hF ⟨W, hW⟩ hfree' hr2 (again u F (fun _ h => h) ?_ ?_)⟩
          · intro v G _ hG h
            subst hG
            exact key v _ (.inl rfl) h
          · intro v s hsi hx
            exact ⟨hx, fun h => key v _ (.inr ⟨s, hsi, rfl⟩) h⟩
        | some s =>
          simp only [hs] at h0j
          obtain ⟨hv0, _⟩ := h0j
          refine ⟨fun W h => hv0 W (clsj v0 G0 hG0 W h), fun u hT hx => ih (listed.setIfInBounds j true) (a.put oj.dst u) _ hcl2 (hF.upd (hR j s hs u)) hx hfree' hr2 (again u _ (fun W h => (cls_upd hdep2 W).1 h) ?_ ?_)⟩
          · intro v G _ hG h
            subst hG
            have hj2 := stepj v F h
            unfold stepL at hj2
            rw [wanted_put oj a oi.dst v p1, execOp_put oj hsj a oi.dst v p1] at hj2
            simp only [hw, if_true, hs] at hj2
            exact hj2.2 u hT hx
          · intro v t ht hx2
            obtain ⟨W2, hW2⟩ := hx2
            refine ⟨⟨W2, hW2.1, fun n => ⟨(hW2.2 n).1.1, (hW2.2 n).2⟩⟩, fun h => ?_⟩
            have hj2 := stepj v _ h
            unfold stepL at hj2
            rw [wanted_put oj a oi.dst v p1, execOp_put oj hsj a oi.dst v p1] at hj2
            simp only [hw, if_true, hs] at hj2
            have := hj2.2 u hT ⟨W2, by rw [upd_comm]; exact hW2⟩
            rwa [upd_comm] at this
      · simp only [hw]
        have key : ∀ (v : Value) (G : Nat → World → Prop), anyT P md ops E w0 sp n L (fuel + 1) (listed.setIfInBounds i true) (a.put oi.dst v) G →
            anyT P md ops E w0 sp n L fuel ((listed.setIfInBounds i true).setIfInBounds j true) ((a.put oi.dst v).put oj.dst undef) G := by
          intro v G h
          have hj2 := stepj v G h
          unfold stepL at hj2
          rw [wanted_put oj a oi.dst v p1] at hj2
          rwa [if_neg hw] at hj2
        refine ih (listed.setIfInBounds j true) (a.put oj.dst undef) F hcl2 hF ⟨W, hW⟩ hfree' hr2 (again undef F (fun _ h => h) ?_ ?_)
        · intro v G _ hG h
          subst hG
          exact key v _ h
        · intro v s _ hx
          exact ⟨hx, fun h => key v _ h⟩


/-- The lexical walk of the first operations; behind them: R. -/
def lexT (P : Program) (md : Region.Mode) (ops : Array Oper) (E : World → World → Prop) (w0 : World) (sp : Nat → Option Loose) (R : Act → World → Prop) : Nat → List Oper → Act → (Nat → World → Prop) → Prop
  | _, [], a, F => ∀ W, All E w0 F W → R a W
  | k, o :: rest, a, F => stepL P md ops E w0 sp k o (lexT P md ops E w0 sp R (k + 1) rest) a F
theorem anyT_lex {n g : Nat} {R : Act → World → Prop} (hE : ∀ a b c, E a b → E b c → E a c) (hR : ∀ j s, sp j = some s → ∀ v W W', s.R v W → E W W' → s.R v W') (hs : Region.noSelect ops = true)
    (hs0 : Region.sinkB md ops n = true) (hc0 : Region.chainB md ops n = true) (hn0 : n < ops.size) :
    ∀ (l : List Oper) (k : Nat) (listed : Array Bool) (a : Act) (F : Nat → World → Prop), (∀ j, j < l.length → l[j]? = ops[k + j]?) → k + l.length = n → HeadInv md ops n listed → StF E F → (∃ W, All E w0 F W) →
    Region.lexHead md ops g l.length k listed = true → lexT P md ops E w0 sp R k l a F → anyT P md ops E w0 sp n (fun listed a F => Region.seqB md ops g n listed = true ∧ ∀ W, All E w0 F W → R a W) l.length listed a F
  | [], k, listed, a, F, _, hk, _, _, _, hB, h => by
    have : k = n := by simpa using hk
    subst this
    exact ⟨by simpa [Region.lexHead] using hB, h⟩
  | o :: l, k, listed, a, F, hl, hk, hcl, hF, hex, hB, h => by
    have h0 : ops[k]? = some o := by simpa using (hl 0 (by simp)).symm
    simp only [List.length_cons, Region.lexHead, Bool.and_eq_true] at hB
    obtain ⟨⟨hr, hf⟩, hB'⟩ := hB
    have hkn : k < n := by simp only [List.length_cons] at hk; omega
    have hr' : k ∈ Region.ready md ops listed := by simpa using hr
    have hl' : ∀ j, j < l.length → l[j]? = ops[k + 1 + j]? := fun j hj => by have := hl (j + 1) (by simp; omega); simpa [Nat.add_assoc, Nat.add_comm 1 j] using this
    have hk' : k + 1 + l.length = n := by simp only [List.length_cons] at hk; omega
    refine anyT_first hs0 hc0 hn0 (fun listed' a' F' hL => seqB_ready hL.1) hE hR hkn h0 (Region.noSelect_spec hs) l.length listed a F hcl hF hex (Region.free_spec h0 hf) hr' ?_
    unfold lexT at h
    unfold stepL at h ⊢
    by_cases hw : Region.wanted o (yielded ops a.tmps) = true
    · simp only [hw, if_true] at h ⊢
      cases hsp : sp k with
      | none =>
        simp only [hsp] at h
        obtain ⟨v, hv, hk⟩ := h
        exact ⟨v, hv, anyT_lex hE hR hs hs0 hc0 hn0 l (k + 1) _ _ F hl' hk' (hcl.set hr' hkn) hF hex hB' hk⟩
      | some s =>
        simp only [hsp] at h
        exact ⟨h.1, fun v hT hx => anyT_lex hE hR hs hs0 hc0 hn0 l (k + 1) _ _ _ hl' hk' (hcl.set hr' hkn) (hF.upd (hR k s hsp v)) hx hB' (h.2 v hT hx)⟩
    · rw [if_neg hw] at h ⊢
      exact anyT_lex hE hR hs hs0 hc0 hn0 l (k + 1) _ _ F hl' hk' (hcl.set hr' hkn) hF hex hB' h
/-- A region that draws its order, whose last operations come one behind the other. -/
theorem wp_region_lexT {id : Nat} {a : Act} {w : World} {l : List Oper} (n : Nat) (E : World → World → Prop) (sp : Nat → Option Loose) (hm : P.follows .mixedOrders = true) (hB : Region.lexTailB .any l.toArray n = true) (h0 : ∀ a, E a a) (hE : ∀ a b c, E a b → E b c → E a c)
    (hR : ∀ j s, sp j = some s → ∀ v W W', s.R v W → E W W' → s.R v W')
    (h : lexT P .any l.toArray E w.drew sp (wpList P l.toArray Q (l.drop n)) 0 (l.take n) a (fun _ _ => True)) : (Code.region id l.toArray true).wp P Q a w := by
  simp only [Region.lexTailB, Bool.and_eq_true, decide_eq_true_eq] at hB
  obtain ⟨⟨⟨⟨hsel, hn⟩, hs⟩, hc⟩, hlex⟩ := hB
  have hn' : n < l.length := by simpa using hn
  have htl : (l.take n).length = n := by simp; omega
  have hdl : (l.drop n).length = l.toArray.size - n := by simp
  have inv0 : HeadInv .any l.toArray n (Array.replicate l.toArray.size false) :=
    ⟨by simp, fun j oj _ hl => (by rw [getD_replicate_false] at hl; cases hl), fun t _ ht => getD_in (by simpa using ht) (getD_replicate_false _ _)⟩
  have H := anyT_lex (md := .any) (P := P) (w0 := w.drew) (g := l.toArray.size - n) hE hR hsel hs hc hn (l.take n) 0 _ a (fun _ _ => True) (fun j hj => by
    have hj' : j < n := by rw [htl] at hj; exact hj
    simp [hj']) (by simpa using htl) inv0 (fun _ _ _ _ _ => trivial) ⟨w.drew, h0 _, fun _ => trivial⟩ (by rw [htl]; exact hlex) h
  refine wp_region_any hm ?_
  have := any_ofT (Q := Q) (g := l.toArray.size - n) (fun listed a' F W hL hW => by
    have := wpAny_of_seq (md := .any) (Q' := Q) (l.drop n) n listed a' W (fun j => by simp [List.getElem?_drop]) (by rw [hdl]; exact hL.1) (hL.2 W hW)
    rwa [hdl] at this) hE hR _ _ _ _ w.drew (fun _ _ _ _ _ => trivial) ⟨h0 _, fun _ => trivial⟩ H
  rw [htl, show n + (l.toArray.size - n) = l.toArray.size by omega] at this
  exact this
theorem lexT_nil {R : Act → World → Prop} {F : Nat → World → Prop} {a : Act} {k : Nat} (h : ∀ W, All E w0 F W → R a W) : lexT P md ops E w0 sp R k [] a F := h
theorem lexT_skip {R : Act → World → Prop} {F : Nat → World → Prop} {a : Act} {k : Nat} {o : Oper} {rest : List Oper} (hw : Region.wanted o (yielded ops a.tmps) = false) (h : lexT P md ops E w0 sp R (k + 1) rest (a.put o.dst undef) F) : lexT P md ops E w0 sp R k (o :: rest) a F := by
  unfold lexT stepL
  rw [if_neg (by rw [hw]; exact Bool.false_ne_true)]
  exact h
theorem lexT_still {R : Act → World → Prop} {F : Nat → World → Prop} {a : Act} {k : Nat} {o : Oper} {rest : List Oper} (hw : Region.wanted o (yielded ops a.tmps) = true) (hs : sp k = none) (h : ∃ v, (∀ W, Cls md ops E w0 k F W → (execOp a.eval o).run P W = .ok (.value v) W) ∧ lexT P md ops E w0 sp R (k + 1) rest (a.put o.dst v) F) : lexT P md ops E w0 sp R k (o :: rest) a F := by
  unfold lexT stepL
  rw [if_pos hw]
  simp only [hs]
  exact h
theorem lexT_loose {R : Act → World → Prop} {F : Nat → World → Prop} {a : Act} {k : Nat} {o : Oper} {rest : List Oper} (hw : Region.wanted o (yielded ops a.tmps) = true) {s : Loose} (hs : sp k = some s) (hv : ∀ W, Cls md ops E w0 k F W → looseAt P E W s ((execOp a.eval o).run P W))
    (h : ∀ v, s.T v → lexT P md ops E w0 sp R (k + 1) rest (a.put o.dst v) (upd F k (s.R v))) : lexT P md ops E w0 sp R k (o :: rest) a F := by
  unfold lexT stepL
  rw [if_pos hw]
  simp only [hs]
  exact ⟨hv, fun v hT _ => h v hT⟩
variable {F : Nat → World → Prop} {a : Act} {o : Oper} {rest : List Oper} {k : Nat}
theorem lex_nil (h : ∀ W, All E w0 F W → Q .normal a W) : lexL P md ops E w0 sp Q k [] a F := h
theorem lex_skip (hw : Region.wanted o (yielded ops a.tmps) = false) (h : lexL P md ops E w0 sp Q (k + 1) rest (a.put o.dst undef) F) : lexL P md ops E w0 sp Q k (o :: rest) a F := by
  unfold lexL stepL
  rw [if_neg (by rw [hw]; exact Bool.false_ne_true)]
  exact h
theorem lex_still (hw : Region.wanted o (yielded ops a.tmps) = true) (hs : sp k = none) (h : ∃ v, (∀ W, Cls md ops E w0 k F W → (execOp a.eval o).run P W = .ok (.value v) W) ∧ lexL P md ops E w0 sp Q (k + 1) rest (a.put o.dst v) F) : lexL P md ops E w0 sp Q k (o :: rest) a F := by
  unfold lexL stepL
  rw [if_pos hw]
  simp only [hs]
  exact h
theorem lex_loose (hw : Region.wanted o (yielded ops a.tmps) = true) {s : Loose} (hs : sp k = some s) (hv : ∀ W, Cls md ops E w0 k F W → looseAt P E W s ((execOp a.eval o).run P W))
    (h : ∀ v, s.T v → lexL P md ops E w0 sp Q (k + 1) rest (a.put o.dst v) (upd F k (s.R v))) : lexL P md ops E w0 sp Q k (o :: rest) a F := by
  unfold lexL stepL
  rw [if_pos hw]
  simp only [hs]
  exact ⟨hv, fun v hT _ => h v hT⟩
theorem upd_here {j : Nat} {r : World → Prop} {W : World} (h : upd F j r j W) : r W := h.2 rfl
theorem upd_back {j n : Nat} {r : World → Prop} {W : World} (h : upd F j r n W) : F n W := h.1
/-- The loose operations, listed. -/
def spOf (L : List (Nat × Loose)) (j : Nat) : Option Loose := L.lookup j
def Loose.St (E : World → World → Prop) (s : Loose) : Prop := ∀ v W W', s.R v W → E W W' → s.R v W'
theorem spOf_mem {L : List (Nat × Loose)} {j : Nat} {s : Loose} (h : spOf L j = some s) : ∃ p ∈ L, p.2 = s := by
  unfold spOf at h
  induction L with
  | nil => cases h
  | cons p L ih =>
    obtain ⟨i, t⟩ := p
    rw [List.lookup_cons] at h
    split at h
    · cases h; exact ⟨_, List.mem_cons_self, rfl⟩
    · obtain ⟨q, hq, e⟩ := ih h; exact ⟨q, List.mem_cons_of_mem _ hq, e⟩
theorem st_nil {E : World → World → Prop} : ∀ p ∈ ([] : List (Nat × Loose)), p.2.St E := fun _ h => by cases h
theorem st_cons {E : World → World → Prop} {i : Nat} {s : Loose} {L : List (Nat × Loose)} (h : s.St E) (hL : ∀ p ∈ L, p.2.St E) : ∀ p ∈ (i, s) :: L, p.2.St E := fun p hp => by
  rcases List.mem_cons.1 hp with rfl | hp
  · exact h
  · exact hL p hp
/-- A region in which nothing old is written. -/
theorem wp_region_ext {id : Nat} {a : Act} {w : World} {l : List Oper} (L : List (Nat × Loose)) (hm : P.follows .mixedOrders = true) (hB : Region.lexB .any l.toArray = true)
    (hL : ∀ p ∈ L, p.2.St Base.Ext) (h : lexL P .any l.toArray Base.Ext w.drew (spOf L) Q 0 l a (fun _ _ => True)) : (Code.region id l.toArray true).wp P Q a w :=
  wp_region_lex Base.Ext (spOf L) hm hB Base.Ext.refl (fun _ _ _ => Base.Ext.trans) (fun _ _ hs v W W' hr he => by obtain ⟨p, hp, rfl⟩ := spOf_mem hs; exact hL p hp v W W' hr he) h
/-- A region in which nothing old is written but by its last operations, which come one behind the other. -/
theorem wp_region_tail {id : Nat} {a : Act} {w : World} {l : List Oper} (n : Nat) (L : List (Nat × Loose)) (hm : P.follows .mixedOrders = true) (hB : Region.lexTailB .any l.toArray n = true)
    (hL : ∀ p ∈ L, p.2.St Base.Ext) (h : lexT P .any l.toArray Base.Ext w.drew (spOf L) (wpList P l.toArray Q (l.drop n)) 0 (l.take n) a (fun _ _ => True)) : (Code.region id l.toArray true).wp P Q a w :=
  wp_region_lexT n Base.Ext (spOf L) hm hB Base.Ext.refl (fun _ _ _ => Base.Ext.trans) (fun _ _ hs v W W' hr he => by obtain ⟨p, hp, rfl⟩ := spOf_mem hs; exact hL p hp v W W' hr he) h
def Loose.const (u : Value) : Loose := ⟨fun v => v = u, fun _ _ => True⟩
theorem const_st {E : World → World → Prop} {u : Value} : (Loose.const u).St E := fun _ _ _ _ _ => trivial
/-- A value of which something is known. -/
def Loose.such (p : Value → Prop) : Loose := ⟨p, fun _ _ => True⟩
theorem such_st {E : World → World → Prop} {p : Value → Prop} : (Loose.such p).St E := fun _ _ _ _ _ => trivial
/-- A slice of numbers. -/
def Loose.nums (k : IntKind) (n : Nat) (xs : List Int) : Loose := ⟨fun v => ∃ A c, v = .slice A n c, fun v W => ∀ A c, v = .slice A n c → Base.Rd W k A n xs⟩
theorem nums_st {k : IntKind} {n : Nat} {xs : List Int} : (Loose.nums k n xs).St Base.Ext := fun _ _ _ h he A c e => (h A c e).ext he
theorem nums_mk {k : IntKind} {A : Option Addr} {n c : Nat} {xs : List Int} {W : World} (h : Base.Rd W k A n xs) : (Loose.nums k n xs).R (.slice A n c) W := fun _ _ e => by cases e; exact h
/-- A row that is newer than w0. -/
def Loose.row (w0 : World) (e : TypeId) (k : IntKind) (n : Nat) (xs : List Int) : Loose := ⟨fun v => ∃ A c, v = .slice A n c ∧ n ≤ c, fun v W => ∀ A c, v = .slice A n c → Base.New w0 W e 1 A n c (Base.nums k xs)⟩
theorem row_st {w0 : World} {e : TypeId} {k : IntKind} {n : Nat} {xs : List Int} : (Loose.row w0 e k n xs).St Base.Ext := fun _ _ _ h he A c e => (h A c e).extNew he
theorem row_mk {w0 : World} {e : TypeId} {k : IntKind} {A : Option Addr} {n c : Nat} {xs : List Int} {W : World} (h : Base.New w0 W e 1 A n c (Base.nums k xs)) : (Loose.row w0 e k n xs).R (.slice A n c) W := fun _ _ e => by cases e; exact h
/-- A literal of one element, laid in a block of its own: what its cells are. -/
def Loose.lit (p : List Value → World → Prop) : Loose := ⟨fun v => ∃ g, v = .slice (some ⟨g, 0, none⟩) 1 1, fun v W => ∀ g, v = .slice (some ⟨g, 0, none⟩) 1 1 → ∃ vs, p vs W ∧ ∀ j u, vs[j]? = some u → W.cell? ⟨g, j, none⟩ = some u⟩
theorem lit_st {p : List Value → World → Prop} (hp : ∀ vs W W', p vs W → Base.Ext W W' → p vs W') : (Loose.lit p).St Base.Ext := fun _ W W' h he g e => by
  obtain ⟨vs, h1, h2⟩ := h g e
  exact ⟨vs, hp vs W W' h1 he, fun j u hu => he.cell_ (h2 j u hu)⟩
theorem lit_mk {p : List Value → World → Prop} {W : World} {vs : List Value} {e : TypeId} (h : p vs (W.alloc (.cells vs.toArray e))) : (Loose.lit p).R (.slice (some ⟨W.heap.size, 0, none⟩) 1 1) (W.alloc (.cells vs.toArray e)) := fun g e' => by
  cases e'
  exact ⟨vs, h, fun j u hu => by
    have hb : (W.alloc (.cells vs.toArray e)).heap[W.heap.size]? = some (.cells vs.toArray e (0, 0)) := Base.at_new _ _
    have := World.news_of_block hb j u (by simpa using hu)
    have ha : (⟨W.heap.size, 0, none⟩ : Addr).add j = ⟨W.heap.size, j, none⟩ := by unfold Addr.add; split <;> simp_all
    rwa [ha] at this⟩
/-- Such a literal, of a row among plain cells. -/
def Loose.litR (pre : List Value) (w0 : World) (e : TypeId) (k : IntKind) (n : Nat) (xs : List Int) (post : List Value) : Loose :=
  Loose.lit fun vs W => ∃ A c, vs = pre ++ .slice A n c :: post ∧ Base.New w0 W e 1 A n c (Base.nums k xs)
theorem litR_st {pre : List Value} {w0 : World} {e : TypeId} {k : IntKind} {n : Nat} {xs : List Int} {post : List Value} : (Loose.litR pre w0 e k n xs post).St Base.Ext :=
  lit_st fun _ _ _ ⟨A, c, h1, h2⟩ he => ⟨A, c, h1, h2.extNew he⟩
/-- A row of bytes whose length is not told. -/
def Loose.rowE (w0 : World) (e : TypeId) (k : IntKind) (xs : List Int) : Loose := ⟨fun v => ∃ A n c, v = .slice A n c ∧ n ≤ c ∧ xs.length = n, fun v W => ∀ A n c, v = .slice A n c → Base.New w0 W e 1 A n c (Base.nums k xs)⟩
theorem rowE_st {w0 : World} {e : TypeId} {k : IntKind} {xs : List Int} : (Loose.rowE w0 e k xs).St Base.Ext := fun _ _ _ h he A n c e => (h A n c e).extNew he
theorem rowE_mk {w0 : World} {e : TypeId} {k : IntKind} {A : Option Addr} {n c : Nat} {xs : List Int} {W : World} (h : Base.New w0 W e 1 A n c (Base.nums k xs)) : (Loose.rowE w0 e k xs).R (.slice A n c) W := fun _ _ _ e => by cases e; exact h
/-- Nothing old is written but block r, once, from X to Y. -/
def St (r : Nat) (X Y : Option Obj) (a b : World) : Prop := Base.Chg (fun i => i = r) a b ∧ (b.heap[r]? = a.heap[r]? ∨ (a.heap[r]? = X ∧ b.heap[r]? = Y))
theorem St.refl (r : Nat) (X Y : Option Obj) (a : World) : St r X Y a a := ⟨Base.Chg.refl _ _, .inl rfl⟩
theorem St.trans {r : Nat} {X Y : Option Obj} {a b c : World} (h : St r X Y a b) (k : St r X Y b c) : St r X Y a c :=
  ⟨h.1.trans k.1, by
    rcases h.2 with h2 | ⟨h2, h3⟩ <;> rcases k.2 with k2 | ⟨k2, k3⟩
    · exact .inl (k2.trans h2)
    · exact .inr ⟨h2.symm.trans k2, k3⟩
    · exact .inr ⟨h2, k2.trans h3⟩
    · exact .inr ⟨h2, k3⟩⟩
theorem St.of_ext {r : Nat} {X Y : Option Obj} {a b : World} (h : Base.Ext a b) (hr : r < a.heap.size) : St r X Y a b := ⟨Base.Below.chg h, .inl (h.block r hr)⟩
theorem St.at_ {r : Nat} {X Y : Option Obj} {a b : World} (h : St r X Y a b) {i : Nat} {o : Obj} (hi : a.heap[i]? = some o) (hne : i ≠ r) : b.heap[i]? = some o := h.1.at_ hi hne
theorem St.mk_ {r : Nat} {X Y : Option Obj} {a b : World} (hc : Base.Chg (fun i => i = r) a b) (h : a.heap[r]? = X ∨ a.heap[r]? = Y) (hY : b.heap[r]? = Y) : St r X Y a b :=
  ⟨hc, h.elim (fun h => .inr ⟨h, hY⟩) fun h => .inl (hY.trans h.symm)⟩
theorem St.or_ {r : Nat} {X Y : Option Obj} {a b : World} (h : St r X Y a b) (hX : a.heap[r]? = X) : b.heap[r]? = X ∨ b.heap[r]? = Y := h.2.imp (fun h => h.trans hX) fun h => h.2
/-- The store has been done. -/
def Loose.stored (r : Nat) (Y : Option Obj) : Loose := ⟨fun v => v = undef, fun _ W => W.heap[r]? = Y⟩
theorem stored_st {r : Nat} {X Y : Option Obj} : (Loose.stored r Y).St (St r X Y) := fun _ W W' (h : W.heap[r]? = Y) he => by
  rcases he.2 with h2 | ⟨_, h3⟩
  · exact h2.trans h
  · exact h3
theorem const_stS {u : Value} {r : Nat} {X Y : Option Obj} : (Loose.const u).St (St r X Y) := fun _ _ _ _ _ => trivial
/-- A region that writes one old block, once. -/
theorem wp_region_st {id : Nat} {a : Act} {w : World} {l : List Oper} (r : Nat) (X Y : Option Obj) (L : List (Nat × Loose)) (hm : P.follows .mixedOrders = true) (hB : Region.lexB .any l.toArray = true)
    (hL : ∀ p ∈ L, p.2.St (St r X Y)) (h : lexL P .any l.toArray (St r X Y) w.drew (spOf L) Q 0 l a (fun _ _ => True)) : (Code.region id l.toArray true).wp P Q a w :=
  wp_region_lex (St r X Y) (spOf L) hm hB (St.refl r X Y) (fun _ _ _ => St.trans) (fun _ _ hs v W W' hr he => by obtain ⟨p, hp, rfl⟩ := spOf_mem hs; exact hL p hp v W W' hr he) h
end
end Go.Proofs.Ytipmkddcdnbihaa.Lex
/- What a call on an object may write: the blocks of S; behind it the object's blocks are those of S', which are S's and new ones. -/
namespace Go.Proofs.Ytipmkddcdnbihaa.Step
open Go.RowKit Base

structure Step (S S' : Nat → Prop) (w w' : World) : Prop where
  chg : Chg S w w'
  grow : ∀ i, S' i → S i ∨ w.heap.size ≤ i
theorem Step.refl (S : Nat → Prop) (w : World) : Step S S w w := ⟨Chg.refl _ _, fun _ h => .inl h⟩
theorem Step.trans {S S' S'' : Nat → Prop} {a b c : World} (h : Step S S' a b) (k : Step S' S'' b c) : Step S S'' a c :=
  ⟨⟨k.chg.os.trans h.chg.os, k.chg.tape.trans h.chg.tape, k.chg.output.trans h.chg.output, Nat.le_trans h.chg.size k.chg.size, fun i hi hn =>
    (k.chg.block i (Nat.lt_of_lt_of_le hi h.chg.size) fun hs => (h.grow i hs).elim hn fun h2 => by omega).trans (h.chg.block i hi hn)⟩,
   fun i hs => (k.grow i hs).elim (h.grow i) fun h2 => .inr (Nat.le_trans h.chg.size h2)⟩
theorem Step.ext {S S' : Nat → Prop} {a b c : World} (h : Step S S' a b) (k : Ext b c) : Step S S' a c := ⟨h.chg.trans (Below.chg k), h.grow⟩
theorem extStep {S S' : Nat → Prop} {a b c : World} (h : Ext a b) (k : Step S S' b c) : Step S S' a c :=
  ⟨Chg.trans (Below.chg h) k.chg, fun i hs => (k.grow i hs).imp id fun h2 => Nat.le_trans h.size h2⟩
theorem Step.size {S S' : Nat → Prop} {a b : World} (h : Step S S' a b) : a.heap.size ≤ b.heap.size := h.chg.size
/-- A slice lies off S. -/
def Off (S : Nat → Prop) (A : Option Addr) (n : Nat) : Prop := 0 < n → ∀ ad, A = some ad → ¬ S ad.block
theorem rd_step {S S' : Nat → Prop} {w w' : World} {k : IntKind} {A : Option Addr} {n : Nat} {xs : List Int} (h : Rd w k A n xs) (ho : Off S A n) (hs : Step S S' w w') : Rd w' k A n xs :=
  h.chg hs.chg fun ad ha h0 => ho h0 ad ha
theorem Off.step {S S' : Nat → Prop} {w w' : World} {k : IntKind} {A : Option Addr} {n : Nat} {xs : List Int} (ho : Off S A n) (h : Rd w k A n xs) (hs : Step S S' w w') : Off S' A n := fun h0 ad ha hS => by
  subst ha
  rcases hs.grow _ hS with h1 | h1
  · exact ho h0 ad rfl h1
  · have := h.lt h0
    omega
theorem Off.new {S : Nat → Prop} {w0 w : World} {e : TypeId} {size n c : Nat} {A : Option Addr} {xs : List Value} (h : New w0 w e size A n c xs) (hS : ∀ i, S i → i < w0.heap.size) : Off S A n := fun h0 ad ha hs => by
  obtain ⟨g, cap, hv, _, _⟩ := h.row.form h0
  cases ha
  cases hv
  have h1 : w0.heap.size ≤ g := h.foot g rfl
  have h2 : g < w0.heap.size := hS _ hs
  omega
theorem Off.old {S : Nat → Prop} {w : World} {k : IntKind} {A : Option Addr} {n : Nat} {xs : List Int} (h : Rd w k A n xs) (hS : ∀ i, S i → w.heap.size ≤ i) : Off S A n := fun h0 ad ha hs => by
  subst ha
  have := h.lt h0
  have := hS _ hs
  omega
theorem Off.nil (S : Nat → Prop) (n : Nat) : Off S none n := fun _ _ h => by cases h
theorem Off.zero (S : Nat → Prop) (A : Option Addr) : Off S A 0 := fun h => absurd h (by omega)
theorem blk_cell {w W : World} {g i : Nat} {cs : Array Value} {T : TypeId} {fr : Nat × Nat} {v : Value} (h : w.heap[g]? = some (.cells cs T fr)) (he : Ext w W) (hv : cs[i]? = some v) : W.cell? ⟨g, i, none⟩ = some v := by
  rw [cell_of_row W g i cs T fr (he.at_ h)]
  exact hv
theorem cell_at {w0 w1 : World} {g i : Nat} {cs : Array Value} {T : TypeId} {fr : Nat × Nat} {v : Value} (he : Ext w0 w1) (h : w0.heap[g]? = some (.cells cs T fr)) (hv : cs[i]? = some v) : ∀ W, Ext w1 W → W.cell? ⟨g, i, none⟩ = some v := fun _ hW => blk_cell h (he.trans hW) hv
theorem drew_ext {w W : World} (h : Ext w.drew W) : Ext w W := (Ext.refl w).drew.trans h
theorem blk_free {w W : World} {g : Nat} {cs : Array Value} {T : TypeId} (h : w.heap[g]? = some (.cells cs T (0, 0))) (he : Ext w W) (j : Nat) : W.frozen? ⟨g, j, none⟩ = false := Pack.free_of (he.at_ h) j
theorem set_blk {w : World} {g i : Nat} {cs : Array Value} {T : TypeId} {fr : Nat × Nat} (h : w.heap[g]? = some (.cells cs T fr)) (u : Value) : (w.setCell ⟨g, i, none⟩ u).heap[g]? = some (.cells (cs.setIfInBounds i u) T fr) := by
  simp [World.setCell, Array.getElem?_modify, h]

/-- A store into a block of another type. -/
theorem own_put {w : World} {S : Nat → Prop} {e e' : TypeId} {size n g i : Nat} {v u : Value} {xs : List Value} {cs : Array Value} {fr : Nat × Nat} (h : Own w S e size v n xs) (hb : w.heap[g]? = some (.cells cs e' fr)) (hne : e ≠ e') : Own (w.setCell ⟨g, i, none⟩ u) S e size v n xs :=
  h.keep fun k hk => Below.heap_setCell _ _ _ _ fun he => h.ne hb hne (by rw [hk, he])
/-- The first elements of a row of numbers. -/
theorem own_take {w : World} {S : Nat → Prop} {e : TypeId} {k : IntKind} {A : Option Addr} {n c : Nat} {xs : List Int} (h : Own w S e 1 (.slice A n c) n (nums k xs)) {m : Nat} (hm : m ≤ n) : Own w S e 1 (.slice A m c) m (nums k (xs.take m)) := by
  have hl : xs.length = n := by have := h.row.1; simpa [nums] using this
  refine ⟨⟨by simp [nums]; omega, ?_⟩, fun g hg => h.foot g (by rcases A with _ | ad <;> simp [Value.ownBlock] at hg ⊢ <;> exact hg)⟩
  rcases h.row.2 with ⟨h1, h2⟩ | ⟨g, cap, cur, h1, h2, h3, h4, h5, h6, h7⟩
  · cases h1
    exact .inl ⟨by congr; omega, by omega⟩
  · cases h1
    refine .inr ⟨g, c, cur, rfl, h2, h3, by omega, h5, h6, ?_⟩
    have h8 : cur.toList.take (m * 1) = (nums k xs).take m := by
      rw [← h7, List.take_take]
      congr 1
      omega
    rw [h8]
    simp [nums, List.map_take]
/-- A number is stored into a row. -/
theorem own_set {w : World} {S : Nat → Prop} {e : TypeId} {k : IntKind} {ad : Addr} {n c : Nat} {xs : List Int} (h : Own w S e 1 (.slice (some ad) n c) n (nums k xs)) {j : Nat} (hj : j < n) (u : Int) :
    Own (w.setCell (ad.add j) (.int k u)) S e 1 (.slice (some ad) n c) n (nums k (xs.set j u)) := by
  have hl : xs.length = n := by have := h.row.1; simpa [nums] using this
  refine ⟨⟨by simp [nums]; omega, ?_⟩, fun g hg => h.foot g hg⟩
  rcases h.row.2 with ⟨h1, h2⟩ | ⟨g, cap, cur, h1, h2, h3, h4, h5, h6, h7⟩
  · cases h1
  · cases h1
    have ha : (⟨g, 0, none⟩ : Addr).add j = ⟨g, j, none⟩ := by unfold Addr.add; split <;> simp_all
    rw [ha]
    refine .inr ⟨g, c, cur.setIfInBounds j (.int k u), rfl, h2, set_blk h3 _, h4, h5, by simpa using h6, ?_⟩
    rw [Array.toList_setIfInBounds, List.take_set, h7]
    simp [nums, List.map_set]
theorem own_free {w : World} {S : Nat → Prop} {e : TypeId} {size : Nat} {ad : Addr} {n c : Nat} {xs : List Value} (h : Own w S e size (.slice (some ad) n c) n xs) (j : Nat) : w.frozen? (ad.add j) = false := by
  rcases h.row.2 with ⟨h1, h2⟩ | ⟨g, cap, cur, h1, h2, h3, h4, h5, h6, h7⟩
  · cases h1
  · cases h1
    have ha : (⟨g, 0, none⟩ : Addr).add j = ⟨g, j, none⟩ := by unfold Addr.add; split <;> simp_all
    rw [ha]
    exact Pack.free_of h3 j
theorem own_block {w : World} {S : Nat → Prop} {e : TypeId} {size : Nat} {ad : Addr} {n c : Nat} {xs : List Value} (h : Own w S e size (.slice (some ad) n c) n xs) : (Value.slice (some ad) n c).ownBlock = some ad.block := rfl
/-- An object's blocks, and a row's that it has come to. -/
def With (S : Nat → Prop) (v : Value) : Nat → Prop := fun i => S i ∨ v.ownBlock = some i
theorem with_own {S S0 : Nat → Prop} {w : World} {e : TypeId} {size n : Nat} {v : Value} {xs : List Value} (ho : Own w S0 e size v n xs) : Own w (With S v) e size v n xs := ⟨ho.row, fun _ hk => .inr hk⟩
theorem with_grow {S : Nat → Prop} {b : Nat} {w : World} {e : TypeId} {size n : Nat} {v : Value} {xs : List Value} (ho : Own w (fun i => S i ∨ b ≤ i) e size v n xs) : ∀ i, With S v i → S i ∨ b ≤ i :=
  fun i h => h.elim .inl fun h => ho.foot i h
theorem with_new {S : Nat → Prop} {b : Nat} {w : World} {e : TypeId} {size n : Nat} {v : Value} {xs : List Value} (ho : Own w (fun i => b ≤ i) e size v n xs) : ∀ i, With S v i → S i ∨ b ≤ i :=
  fun i h => h.elim .inl fun h => .inr (ho.foot i h)
theorem with_lt {S S0 : Nat → Prop} {w0 w : World} {e : TypeId} {size n : Nat} {v : Value} {xs : List Value} (ho : Own w S0 e size v n xs) (hS : ∀ i, S i → i < w0.heap.size) (hw : w0.heap.size ≤ w.heap.size) : ∀ i, With S v i → i < w.heap.size :=
  fun i h => h.elim (fun h => Nat.lt_of_lt_of_le (hS i h) hw) fun h => (ho.row.lt i h).2

/-- S, and one block more. -/
def And1 (S : Nat → Prop) (g : Nat) : Nat → Prop := fun i => S i ∨ i = g
theorem Step.and1 {S S' : Nat → Prop} {a b : World} (h : Step S S' a b) (g : Nat) : Step (And1 S g) (And1 S' g) a b :=
  ⟨h.chg.mono fun _ _ h => .inl h, fun i hi => hi.elim (fun h1 => (h.grow i h1).imp .inl id) fun h1 => .inl (.inr h1)⟩
theorem Step.not {S S' : Nat → Prop} {a b : World} (h : Step S S' a b) {g : Nat} (hg : ¬ S g) (hlt : g < a.heap.size) : ¬ S' g := fun hs => (h.grow g hs).elim hg fun h1 => by omega
/-- All blocks of S are newer than w0. -/
def Fresh (w0 : World) (S : Nat → Prop) : Prop := ∀ i, S i → w0.heap.size ≤ i
theorem fresh_step {w0 a b : World} {S S' : Nat → Prop} (he : Ext w0 a) (hS : Fresh w0 S) (hs : Step S S' a b) : Ext w0 b ∧ Fresh w0 S' :=
  ⟨he.chg hs.chg hS, fun i hi => (hs.grow i hi).elim (hS i) fun h => Nat.le_trans he.size h⟩

set_option maxHeartbeats 400000 in
theorem clone8 (A : Option Addr) (n c : Nat) (xs : List Int) (w : World) (hr : Rd w .u8 A n xs) (hn : n ≤ 140737488351232) :
    Calls Try.prog 105 #[.slice A n c] w fun e w' => Ext w w' ∧ ∃ A' c', e = .returned (.slice A' n c') ∧ New w w' 5 1 A' n c' (nums .u8 xs) := by
  have hq := fun (W : World) (a : Option Addr) (n c n' c' : Nat) => Lib.run_eql_slice_nil (P := Try.prog) W 55 5 a n c n' c' Try.underlying55
  rcases A with _ | ad
  · have h0 : n = 0 := by
      rcases Nat.eq_zero_or_pos n with h0 | h0
      · exact h0
      · obtain ⟨ad, e, _⟩ := hr.cell h0
        cases e
    subst h0
    obtain rfl : xs = [] := List.eq_nil_of_length_eq_zero hr.len
    go_enter Try.func105, Try.ntmps105
    go_wp2_with fail
    go_ret
    exact ⟨Ext.refl _, none, 0, rfl, Own.nil _ _ _ _⟩
  · go_enter Try.func105, Try.ntmps105
    go_wp2_with (at_builtin; refine wpList_clone _ rfl _ _ _ rfl 5 .u8 1 Try.underlying55 Pack.info_u8 (by decide) rfl (some ad) (n) (c) (xs) rfl hr ?c2 ?_)
    case c2 => omega
    intro A2 c2 w2 ho2 he2
    go_wp2_with fail
    go_ret
    exact ⟨he2, A2, c2, rfl, ho2⟩
end Go.Proofs.Ytipmkddcdnbihaa.Step
/- Plain facts about tapes: no program in sight. -/
namespace Go.Proofs.Ytipmkddcdnbihaa.TapeP
/-- The last byte's bits turned. -/
def turn (xs : List Int) (bits : Int) : List Int := xs.set (xs.length - 1) (Go.bits .xor .u8 (xs.getD (xs.length - 1) 0) bits)
theorem turn_length (xs : List Int) (bits : Int) : (turn xs bits).length = xs.length := by simp [turn]
/-- How many loose bytes a crash keeps. -/
def kept (keep : Int) (loose : Nat) : Nat := (min (max keep 0) (loose : Int)).toNat
theorem kept_le (keep : Int) (loose : Nat) : kept keep loose ≤ loose := by unfold kept; omega
/-- What is there behind a crash. -/
def crash (xs : List Int) (safe : Nat) (keep bits : Int) : List Int :=
  if 0 < kept keep (xs.length - safe) then turn (xs.take (safe + kept keep (xs.length - safe))) bits else xs.take (safe + kept keep (xs.length - safe))
theorem crash_length (xs : List Int) (safe : Nat) (keep bits : Int) (h : safe ≤ xs.length) : (crash xs safe keep bits).length = safe + kept keep (xs.length - safe) := by
  have := kept_le keep (xs.length - safe)
  unfold crash
  split
  · rw [turn_length, List.length_take, Nat.min_eq_left (by omega)]
  · rw [List.length_take, Nat.min_eq_left (by omega)]
theorem bits_u8 (a b : Int) : 0 ≤ Go.bits .xor .u8 a b ∧ Go.bits .xor .u8 a b < 256 := by
  have h := (BitVec.ofInt 8 a ^^^ BitVec.ofInt 8 b).isLt
  unfold Go.bits
  simp [IntKind.wrap, IntKind.bits, IntKind.signed]
  omega
end Go.Proofs.Ytipmkddcdnbihaa.TapeP
namespace Go.Proofs.Ytipmkddcdnbihaa.Tape
open Go.RowKit Base Step
open TapeP (kept crash turn)

structure TapeIs (w : World) (S : Nat → Prop) (g : Nat) (A : Option Addr) (n c : Nat) (xs : List Int) (safe : Nat) (most : Int) : Prop where
  at_ : w.heap[g]? = some (.cells #[.slice A n c, .int .i64 safe, .int .i64 most] 181 (0, 0))
  own : Own w S 5 1 (.slice A n c) n (nums .u8 xs)
  foot : S g
  wf : ∀ x ∈ xs, (Lit.int .u8 x).wf = true
  lt : ∀ i, S i → i < w.heap.size
  safe : safe ≤ n
  most : (n : Int) ≤ most ∧ most ≤ 9223372036854775807
/-- A tape at block g, all of it in blocks of S: its bytes, how many are safe, and for how many there is room. -/
def Tape (w : World) (S : Nat → Prop) (g : Nat) (xs : List Int) (safe : Nat) (most : Int) : Prop := ∃ A n c, TapeIs w S g A n c xs safe most
theorem TapeIs.len {w : World} {S : Nat → Prop} {g : Nat} {A : Option Addr} {n c : Nat} {xs : List Int} {safe : Nat} {most : Int} (h : TapeIs w S g A n c xs safe most) : xs.length = n := by
  have := h.own.row.1
  simpa [nums] using this
theorem TapeIs.ext {w w' : World} {S : Nat → Prop} {g : Nat} {A : Option Addr} {n c : Nat} {xs : List Int} {safe : Nat} {most : Int} (h : TapeIs w S g A n c xs safe most) (he : Ext w w') : TapeIs w' S g A n c xs safe most :=
  ⟨he.at_ h.at_, h.own.extNew he, h.foot, h.wf, fun i hi => he.lt (h.lt i hi), h.safe, h.most⟩
theorem TapeIs.cells {w : World} {S : Nat → Prop} {g : Nat} {A : Option Addr} {n c : Nat} {xs : List Int} {safe : Nat} {most : Int} (h : TapeIs w S g A n c xs safe most) :
    (∀ W, Ext w W → W.cell? ⟨g, 0, none⟩ = some (.slice A n c)) ∧ (∀ W, Ext w W → W.cell? ⟨g, 1, none⟩ = some (.int .i64 safe)) ∧ (∀ W, Ext w W → W.cell? ⟨g, 2, none⟩ = some (.int .i64 most)) :=
  ⟨fun _ he => blk_cell h.at_ he rfl, fun _ he => blk_cell h.at_ he rfl, fun _ he => blk_cell h.at_ he rfl⟩
theorem Tape.ext {w w' : World} {S : Nat → Prop} {g : Nat} {xs : List Int} {safe : Nat} {most : Int} (h : Tape w S g xs safe most) (he : Ext w w') : Tape w' S g xs safe most := by
  obtain ⟨A, n, c, h⟩ := h
  exact ⟨A, n, c, he.at_ h.at_, h.own.extNew he, h.foot, h.wf, fun i hi => he.lt (h.lt i hi), h.safe, h.most⟩
theorem Tape.chg {w w' : World} {S S2 : Nat → Prop} {g : Nat} {xs : List Int} {safe : Nat} {most : Int} (h : Tape w S g xs safe most) (hc : Chg S2 w w') (hd : ∀ i, S i → ¬ S2 i) : Tape w' S g xs safe most := by
  obtain ⟨A, n, c, h⟩ := h
  exact ⟨A, n, c, hc.at_ h.at_ (hd _ h.foot), h.own.chg hc hd, h.foot, h.wf, fun i hi => Nat.lt_of_lt_of_le (h.lt i hi) hc.size, h.safe, h.most⟩
theorem Tape.lt {w : World} {S : Nat → Prop} {g : Nat} {xs : List Int} {safe : Nat} {most : Int} (h : Tape w S g xs safe most) : ∀ i, S i → i < w.heap.size := by
  obtain ⟨A, n, c, h⟩ := h
  exact h.lt
theorem Tape.wf {w : World} {S : Nat → Prop} {g : Nat} {xs : List Int} {safe : Nat} {most : Int} (h : Tape w S g xs safe most) : ∀ x ∈ xs, (Lit.int .u8 x).wf = true := by
  obtain ⟨A, n, c, h⟩ := h
  exact h.wf
theorem Tape.safe_le {w : World} {S : Nat → Prop} {g : Nat} {xs : List Int} {safe : Nat} {most : Int} (h : Tape w S g xs safe most) : safe ≤ xs.length := by
  obtain ⟨A, n, c, h⟩ := h
  rw [h.len]
  exact h.safe

set_option maxRecDepth 100000 in
theorem new_calls (most : Int) (w : World) (hm : (Lit.int .i64 most).wf = true) :
    Calls Try.prog 38 #[.int .i64 most] w fun e w' => e = .returned (.pointer (some ⟨w.heap.size, 0, none⟩)) ∧ Ext w w' ∧ Tape w' (fun i => i = w.heap.size) w.heap.size [] 0 (max most 0) := by
  obtain ⟨h0, h1⟩ := wf_i64 hm
  go_enter Try.func38, Try.ntmps38
  go_wp2_with fail
  all_goals
    go_ret
    first | rw [show max most 0 = 0 by omega] | rw [show max most 0 = most by omega]
    exact ⟨rfl, Ext.new _ _, none, 0, 0, at_new _ _, Own.nil _ _ _ _, rfl, by simp, by intro i hi; subst hi; simp, Nat.le_refl _, by omega, by omega⟩

set_option maxRecDepth 100000 in
set_option maxHeartbeats 400000 in
theorem read_calls (S : Nat → Prop) (g : Nat) (xs : List Int) (safe : Nat) (most : Int) (w : World) (h : Tape w S g xs safe most) (hx : xs.length ≤ 1099511627776) :
    Calls Try.prog 153 #[.pointer (some ⟨g, 0, none⟩)] w fun e w' => Ext w w' ∧ ∃ A' c', e = .returned (.slice A' xs.length c') ∧ New w w' 5 1 A' xs.length c' (nums .u8 xs) := by
  obtain ⟨A, n, c, h⟩ := h
  obtain rfl := h.len
  have c0 := blk_cell (i := 0) h.at_ (Ext.refl w) rfl
  go_enter Try.func153, Try.ntmps153
  go_wp2_with fail
  refine (clone8 A xs.length c xs _ (h.own.rd h.wf) (by omega)).mono ?_
  rintro e w1 ⟨he1, A1, c1, rfl, ho1⟩
  go_wp2_with fail
  go_ret
  exact ⟨he1, A1, c1, rfl, ho1⟩

theorem TapeIs.put {w : World} {S' : Nat → Prop} {g : Nat} {A A' : Option Addr} {n c n' c' : Nat} {safe : Nat} {most : Int} {xs : List Int} (hb : w.heap[g]? = some (.cells #[.slice A n c, .int .i64 safe, .int .i64 most] 181 (0, 0)))
    (ho : Own w S' 5 1 (.slice A' n' c') n' (nums .u8 xs)) (hS : S' g) (hlt : ∀ i, S' i → i < w.heap.size) (hw : ∀ x ∈ xs, (Lit.int .u8 x).wf = true) (hs : safe ≤ n') (hm : (n' : Int) ≤ most ∧ most ≤ 9223372036854775807) :
    TapeIs (w.setCell ⟨g, 0, none⟩ (.slice A' n' c')) S' g A' n' c' xs safe most :=
  ⟨set_blk hb _, ho.keep fun i hi => Below.heap_setCell _ _ _ _ fun e => ho.ne hb (by decide) (by rw [hi, e]), hS, hw, fun i hi => by simpa using hlt i hi, hs, hm⟩
theorem TapeIs.sync {w : World} {S : Nat → Prop} {g : Nat} {A : Option Addr} {n c : Nat} {safe safe' : Nat} {most : Int} {xs : List Int} (h : TapeIs w S g A n c xs safe most) (hs : safe' ≤ n) :
    TapeIs (w.setCell ⟨g, 1, none⟩ (.int .i64 safe')) S g A n c xs safe' most :=
  ⟨set_blk h.at_ _, h.own.keep fun i hi => Below.heap_setCell _ _ _ _ fun e => h.own.ne h.at_ (by decide) (by rw [hi, e]), h.foot, h.wf, fun i hi => by simpa using h.lt i hi, hs, h.most⟩

set_option maxRecDepth 100000 in
set_option maxHeartbeats 400000 in
theorem sync_calls (S : Nat → Prop) (g : Nat) (xs : List Int) (safe : Nat) (most : Int) (w : World) (h : Tape w S g xs safe most) :
    Calls Try.prog 168 #[.pointer (some ⟨g, 0, none⟩)] w fun e w' => e = .returned (.int .i64 0) ∧ Tape w' S g xs xs.length most ∧ Step S S w w' := by
  obtain ⟨A, n, c, h⟩ := h
  obtain rfl := h.len
  have c0 := blk_cell (i := 0) h.at_ (Ext.refl w) rfl
  have c1 := blk_cell (i := 1) h.at_ (Ext.refl w) rfl
  have f1 := blk_free h.at_ (Ext.refl w) 1
  go_enter Try.func168, Try.ntmps168
  go_wp2_with fail
  go_ret
  exact ⟨rfl, ⟨A, _, c, h.sync (Nat.le_refl _)⟩, (Chg.refl _ _).setCell (p := ⟨g, 1, none⟩) h.foot _, fun _ h => .inl h⟩

set_option maxRecDepth 100000 in
set_option maxHeartbeats 400000 in
theorem append_calls (S : Nat → Prop) (g : Nat) (xs : List Int) (safe : Nat) (most : Int) (B : Option Addr) (m d : Nat) (ys : List Int) (w : World) (h : Tape w S g xs safe most) (hr : Rd w .u8 B m ys) (hx : xs.length ≤ 1099511627776) (hm : m ≤ 1099511627776) (hfit : (xs.length : Int) + m ≤ most) :
    Calls Try.prog 166 #[.pointer (some ⟨g, 0, none⟩), .slice B m d] w fun e w' => e = .returned (.int .i64 0) ∧ ∃ S', Tape w' S' g (xs ++ ys) safe most ∧ Step S S' w w' := by
  obtain ⟨A, n, c, h⟩ := h
  obtain rfl := h.len
  have hm0 := h.most.1
  have hm1 := h.most.2
  have d0 : ∀ W, Ext w.drew W → W.cell? ⟨g, 0, none⟩ = some (.slice A xs.length c) := fun W hW => blk_cell h.at_ (drew_ext hW) rfl
  have d2 : ∀ W, Ext w.drew W → W.cell? ⟨g, 2, none⟩ = some (.int .i64 most) := fun W hW => blk_cell h.at_ (drew_ext hW) rfl
  have w1 : IntKind.i64.wrap (most - (xs.length : Int)) = most - xs.length := IntWalk.i64_in _ (by omega)
  go_enter Try.func166, Try.ntmps166
  go_wp2_with fail
  refine Lex.wp_region_ext [] (by kernel_rfl) (by kernel_rfl) (by repeat (first | exact Lex.st_nil | refine Lex.st_cons (by first | exact Lex.nums_st | exact Lex.const_st | exact Lex.such_st | exact Lex.row_st | exact Lex.rowE_st | exact Lex.litR_st | assumption) ?_)) ?_
  repeat (first | (refine Lex.lex_skip (by rfl) ?_; simp only [Act.put, List.setIfInBounds_toArray, List.set_cons_zero, List.set_cons_succ]) | (refine Lex.lex_still (by rfl) (by rfl) ?_; apply Exists.intro; refine ⟨fun W hW => ?_, ?_⟩; (have hE := hW.1; have hE2 := Base.Ext.trans (Base.Ext.drew (Base.Ext.refl _)) hW.1; clear hW; go_simp; try with_reducible rfl); simp only [Act.put, List.setIfInBounds_toArray, List.set_cons_zero, List.set_cons_succ]))
  refine Lex.lex_nil (fun W hW => ?_)
  have hE := drew_ext hW.1
  have c0 := d0 W hW.1
  clear hW d0 d2 w1
  have hat := hE.at_ h.at_
  have hown := h.own.extNew hE
  go_wp2_with (at_builtin; refine wpList_app _ rfl _ _ _ rfl (fun i => S i ∨ W.heap.size ≤ i) 5 .u8 1 Try.underlying55 Pack.info_u8 (by decide) (.slice A xs.length c) _ xs rfl (hown.mono fun i _ hi => .inl hi) B m d ys rfl (hr.ext hE) ?c2 (fun i hi => .inr hi) ?_)
  case c2 => omega
  intro A2 c2 w2 ho2 hc2
  have hat2 := hc2.at_ hat (hown.ne hat (by decide))
  have hcell2 := blk_cell (i := 0) hat2 (Ext.refl w2) rfl
  have hf2 := Pack.free_of hat2 0
  have hlt2 := with_lt (S := S) ho2 (fun i hi => hE.lt (h.lt i hi)) hc2.size
  have hgr2 := with_grow ho2
  have hwf := wf_append h.wf hr.wf
  have hct : Chg S w w2 := (Below.chg hE).step hc2 fun i _ hi => hown.foot i hi
  clear hc2 hown c0
  go_wp2_with fail
  go_ret
  exact ⟨rfl, _, ⟨A2, _, c2, TapeIs.put hat2 (with_own ho2) (.inl h.foot) hlt2 hwf (by have := h.safe; omega) ⟨by omega, hm1⟩⟩, hct.setCell (p := ⟨g, 0, none⟩) h.foot _, fun i hi => (hgr2 i hi).imp id fun h2 => Nat.le_trans hE.size h2⟩

set_option maxRecDepth 100000 in
set_option maxHeartbeats 400000 in
theorem append_full (S : Nat → Prop) (g : Nat) (xs : List Int) (safe : Nat) (most : Int) (B : Option Addr) (m d : Nat) (w : World) (h : Tape w S g xs safe most) (hm : m ≤ 1099511627776) (hfit : most < (xs.length : Int) + m) :
    Calls Try.prog 166 #[.pointer (some ⟨g, 0, none⟩), .slice B m d] w fun e w' => e = .returned (.int .i64 20) ∧ Ext w w' := by
  obtain ⟨A, n, c, h⟩ := h
  obtain rfl := h.len
  have hm0 := h.most.1
  have hm1 := h.most.2
  have d0 : ∀ W, Ext w.drew W → W.cell? ⟨g, 0, none⟩ = some (.slice A xs.length c) := fun W hW => blk_cell h.at_ (drew_ext hW) rfl
  have d2 : ∀ W, Ext w.drew W → W.cell? ⟨g, 2, none⟩ = some (.int .i64 most) := fun W hW => blk_cell h.at_ (drew_ext hW) rfl
  have w1 : IntKind.i64.wrap (most - (xs.length : Int)) = most - xs.length := IntWalk.i64_in _ (by omega)
  go_enter Try.func166, Try.ntmps166
  go_wp2_with fail
  refine Lex.wp_region_ext [] (by kernel_rfl) (by kernel_rfl) (by repeat (first | exact Lex.st_nil | refine Lex.st_cons (by first | exact Lex.nums_st | exact Lex.const_st | exact Lex.such_st | exact Lex.row_st | exact Lex.rowE_st | exact Lex.litR_st | assumption) ?_)) ?_
  repeat (first | (refine Lex.lex_skip (by rfl) ?_; simp only [Act.put, List.setIfInBounds_toArray, List.set_cons_zero, List.set_cons_succ]) | (refine Lex.lex_still (by rfl) (by rfl) ?_; apply Exists.intro; refine ⟨fun W hW => ?_, ?_⟩; (have hE := hW.1; have hE2 := Base.Ext.trans (Base.Ext.drew (Base.Ext.refl _)) hW.1; clear hW; go_simp; try with_reducible rfl); simp only [Act.put, List.setIfInBounds_toArray, List.set_cons_zero, List.set_cons_succ]))
  refine Lex.lex_nil (fun W hW => ?_)
  have hE := drew_ext hW.1
  clear hW d0 d2 w1
  go_wp2_with fail
  go_ret
  exact ⟨rfl, hE⟩

/-- A new row, and behind it a new count of safe bytes. -/
theorem TapeIs.put' {w : World} {S' : Nat → Prop} {g : Nat} {A A' : Option Addr} {n c n' c' : Nat} {safe : Nat} {most : Int} {xs : List Int} (hb : w.heap[g]? = some (.cells #[.slice A n c, .int .i64 safe, .int .i64 most] 181 (0, 0)))
    (ho : Own w S' 5 1 (.slice A' n' c') n' (nums .u8 xs)) (hS : S' g) (hlt : ∀ i, S' i → i < w.heap.size) (hw : ∀ x ∈ xs, (Lit.int .u8 x).wf = true) (safe' : Nat) (hs : safe' ≤ n') (hm : (n' : Int) ≤ most ∧ most ≤ 9223372036854775807) :
    ((w.setCell ⟨g, 0, none⟩ (.slice A' n' c')).cell? ⟨g, 0, none⟩ = some (.slice A' n' c') ∧ (w.setCell ⟨g, 0, none⟩ (.slice A' n' c')).cell? ⟨g, 1, none⟩ = some (.int .i64 safe) ∧ (w.setCell ⟨g, 0, none⟩ (.slice A' n' c')).frozen? ⟨g, 1, none⟩ = false) ∧
    TapeIs ((w.setCell ⟨g, 0, none⟩ (.slice A' n' c')).setCell ⟨g, 1, none⟩ (.int .i64 safe')) S' g A' n' c' xs safe' most := by
  have h1 := set_blk (i := 0) hb (.slice A' n' c')
  have h2 := set_blk (i := 1) h1 (.int .i64 safe')
  refine ⟨⟨blk_cell h1 (Ext.refl _) rfl, blk_cell h1 (Ext.refl _) rfl, blk_free h1 (Ext.refl _) 1⟩, h2, ?_, hS, hw, fun i hi => by simpa using hlt i hi, hs, hm⟩
  have ho1 := ho.keep (w' := w.setCell ⟨g, 0, none⟩ (.slice A' n' c')) fun i hi => Below.heap_setCell _ _ _ _ fun e => ho.ne hb (by decide) (by rw [hi, e])
  exact ho1.keep fun i hi => Below.heap_setCell _ _ _ _ fun e => ho1.ne h1 (by decide) (by rw [hi, e])

set_option maxRecDepth 100000 in
set_option maxHeartbeats 400000 in
theorem cut_calls (S : Nat → Prop) (g : Nat) (xs : List Int) (safe : Nat) (most : Int) (n : Nat) (w : World) (h : Tape w S g xs safe most) (hn : n ≤ xs.length) (hx : xs.length ≤ 1099511627776) :
    Calls Try.prog 154 #[.pointer (some ⟨g, 0, none⟩), .int .i64 n] w fun e w' => e = .returned (.int .i64 0) ∧ ∃ S', Tape w' S' g (xs.take n) n most ∧ Step S S' w w' := by
  obtain ⟨A, n', c, h⟩ := h
  obtain rfl := h.len
  have hcap := h.own.cap.1
  have hm0 := h.most.1
  have hm1 := h.most.2
  have c0 := h.cells.1 _ (Ext.refl w)
  go_enter Try.func154, Try.ntmps154
  go_wp2_with fail
  refine (clone8 A n c (xs.take n) _ (rd_take (h.own.rd h.wf) hn) (by omega)).mono ?_
  rintro e w1 ⟨he1, A1, c1, rfl, ho1⟩
  have h1 := h.ext he1
  have hc1 := h1.cells.1 _ (Ext.refl _)
  have hf1 := blk_free h1.at_ (Ext.refl _) 0
  have hlt1 := with_lt (S := S) ho1 h.lt he1.size
  have hgr1 := with_new (S := S) ho1
  have hp := TapeIs.put' h1.at_ (with_own ho1) (.inl h.foot) hlt1 (fun x hx => h.wf x (List.mem_of_mem_take hx)) n (Nat.le_refl _) ⟨by omega, hm1⟩
  have hput2 := hp.2
  have hc2 := hp.1.2.1
  have hf2 := hp.1.2.2
  clear hp
  go_wp2_with fail
  go_ret
  exact ⟨rfl, _, ⟨A1, n, c1, hput2⟩, Chg.setCell (Chg.setCell (Below.chg he1) (p := ⟨g, 0, none⟩) h.foot _) (p := ⟨g, 1, none⟩) h.foot _, hgr1⟩

set_option maxRecDepth 100000 in
set_option maxHeartbeats 400000 in
theorem crash_calls (S : Nat → Prop) (g : Nat) (xs : List Int) (safe : Nat) (most : Int) (keep bits : Int) (w : World) (ht : Tape w S g xs safe most) (hk : (Lit.int .i64 keep).wf = true) (hb : (Lit.int .u8 bits).wf = true) (hx : xs.length ≤ 1099511627776) :
    Calls Try.prog 49 #[.pointer (some ⟨g, 0, none⟩), .int .i64 keep, .int .u8 bits] w fun e w' => e = .returned (.int .i64 ((xs.length - safe : Nat) - kept keep (xs.length - safe))) ∧ ∃ S', Tape w' S' g (crash xs safe keep bits) (safe + kept keep (xs.length - safe)) most ∧ Step S S' w w' := by
  obtain ⟨A, n', c, ht⟩ := ht
  obtain rfl := ht.len
  have hs := ht.safe
  have hcap := ht.own.cap.1
  have hm0 := ht.most.1
  have hm1 := ht.most.2
  obtain ⟨hk0, hk1⟩ := wf_i64 hk
  obtain ⟨hb0, hb1⟩ := wf_u8 hb
  obtain ⟨d0, d1, _⟩ := ht.cells
  have w1 : IntKind.i64.wrap ((xs.length : Int) - safe) = xs.length - safe := IntWalk.i64_in _ (by omega)
  have hK : (if (xs.length : Int) - safe < if keep < 0 then 0 else keep then (xs.length : Int) - safe else if keep < 0 then 0 else keep) = ((kept keep (xs.length - safe) : Nat) : Int) := by
    unfold kept
    split <;> split at * <;> omega
  have hKl := TapeP.kept_le keep (xs.length - safe)
  have HC : Hid (crash xs safe keep bits = if 0 < kept keep (xs.length - safe) then turn (xs.take (safe + kept keep (xs.length - safe))) bits else xs.take (safe + kept keep (xs.length - safe))) := Lib.hid rfl
  have HK := Lib.hid hK
  clear hk hb hK
  generalize hN : kept keep (xs.length - safe) = N at *
  clear hN
  generalize hM : safe + N = M at *
  have hM1 : M ≤ safe + N := by omega
  have hM2 : safe + N ≤ M := by omega
  clear hM
  have w2 : IntKind.i64.wrap ((xs.length : Int) - safe - N) = xs.length - safe - N := IntWalk.i64_in _ (by omega)
  have w3 : IntKind.i64.wrap ((safe : Int) + N) = M := by rw [IntWalk.i64_in _ (by omega)]; omega
  go_enter Try.func49, Try.ntmps49
  go_wp2_with fail
  refine Lex.wp_region_ext [] (by kernel_rfl) (by kernel_rfl) (by repeat (first | exact Lex.st_nil | refine Lex.st_cons (by first | exact Lex.nums_st | exact Lex.const_st | exact Lex.such_st | exact Lex.row_st | exact Lex.rowE_st | exact Lex.litR_st | assumption) ?_)) ?_
  repeat (first | (refine Lex.lex_skip (by rfl) ?_; simp only [Act.put, List.setIfInBounds_toArray, List.set_cons_zero, List.set_cons_succ]) | (refine Lex.lex_still (by rfl) (by rfl) ?_; apply Exists.intro; refine ⟨fun W hW => ?_, ?_⟩; (have hE := hW.1; have hE2 := Base.Ext.trans (Base.Ext.drew (Base.Ext.refl _)) hW.1; clear hW; go_simp; try with_reducible rfl); simp only [Act.put, List.setIfInBounds_toArray, List.set_cons_zero, List.set_cons_succ]))
  rw [HK.out]
  generalize (if keep < 0 then (0 : Int) else keep) = q
  refine Lex.lex_nil (fun W hW => ?_)
  have hE := drew_ext hW.1
  replace ht := ht.ext hE
  obtain ⟨d0, d1, _⟩ := ht.cells
  clear hW
  go_wp2_with fail
  refine Lex.wp_region_ext [] (by kernel_rfl) (by kernel_rfl) (by repeat (first | exact Lex.st_nil | refine Lex.st_cons (by first | exact Lex.nums_st | exact Lex.const_st | exact Lex.such_st | exact Lex.row_st | exact Lex.rowE_st | exact Lex.litR_st | assumption) ?_)) ?_
  repeat (first | (refine Lex.lex_skip (by rfl) ?_; simp only [Act.put, List.setIfInBounds_toArray, List.set_cons_zero, List.set_cons_succ]) | (refine Lex.lex_still (by rfl) (by rfl) ?_; apply Exists.intro; refine ⟨fun W hW => ?_, ?_⟩; (have hE := hW.1; have hE2 := Base.Ext.trans (Base.Ext.drew (Base.Ext.refl _)) hW.1; clear hW; go_simp; try with_reducible rfl); simp only [Act.put, List.setIfInBounds_toArray, List.set_cons_zero, List.set_cons_succ]))
  refine Lex.lex_nil (fun W hW => ?_)
  have hE2 := hE.trans (drew_ext hW.1)
  replace ht := ht.ext (drew_ext hW.1)
  obtain ⟨d0, d1, _⟩ := ht.cells
  clear hW
  have i0 : (0 : Int) ≤ (M : Int) := by omega
  have i1 : (M : Int) ≤ xs.length := by omega
  have i2 : (M : Int) ≤ c := by omega
  have i3 : (xs.length : Int) ≤ c := by omega
  go_wp2_with fail
  refine Lex.wp_region_tail 15 [(12, .row w 5 .u8 M (xs.take M))] (by kernel_rfl) (by kernel_rfl) (by repeat (first | exact Lex.st_nil | refine Lex.st_cons (by first | exact Lex.nums_st | exact Lex.const_st | exact Lex.such_st | exact Lex.row_st | exact Lex.rowE_st | exact Lex.litR_st | assumption) ?_)) ?_; simp only [List.take_succ_cons, List.take_zero, List.drop_succ_cons, List.drop_zero]
  repeat (first | (refine Lex.lexT_skip (by rfl) ?_; simp only [Act.put, List.setIfInBounds_toArray, List.set_cons_zero, List.set_cons_succ]) | (refine Lex.lexT_still (by rfl) (by rfl) ?_; apply Exists.intro; refine ⟨fun W hW => ?_, ?_⟩; (have hE := hW.1; have hE2 := Base.Ext.trans (Base.Ext.drew (Base.Ext.refl _)) hW.1; clear hW; go_simp; try with_reducible rfl); simp only [Act.put, List.setIfInBounds_toArray, List.set_cons_zero, List.set_cons_succ]))
  refine Lex.lexT_loose (by rfl) (by rfl) (fun W hW => ?_) ?_
  · go_simp
    refine (clone8 A M c (xs.take M) _ (rd_take ((ht.ext (drew_ext hW.1)).own.rd ht.wf) (by omega)) (by omega)).mono ?_
    rintro e w5 ⟨he5, A5, c5, rfl, ho5⟩
    exact ⟨_, rfl, ⟨A5, c5, rfl, ho5.cap.1⟩, he5, Lex.row_mk (ho5.mono fun i _ hi => Nat.le_trans (hE2.trans (drew_ext hW.1)).size hi)⟩
  rintro v ⟨A5, c5, rfl, hcap5⟩
  simp only [Act.put, List.setIfInBounds_toArray, List.set_cons_zero, List.set_cons_succ]
  repeat (first | (refine Lex.lexT_skip (by rfl) ?_; simp only [Act.put, List.setIfInBounds_toArray, List.set_cons_zero, List.set_cons_succ]) | (refine Lex.lexT_still (by rfl) (by rfl) ?_; apply Exists.intro; refine ⟨fun W hW => ?_, ?_⟩; (have hE := hW.1; have hE2 := Base.Ext.trans (Base.Ext.drew (Base.Ext.refl _)) hW.1; clear hW; go_simp; try with_reducible rfl); simp only [Act.put, List.setIfInBounds_toArray, List.set_cons_zero, List.set_cons_succ]))
  refine Lex.lexT_nil (fun W hW => ?_)
  have ho5 := Lex.upd_here (hW.2 12) _ _ rfl
  have hE3 := hE2.trans (drew_ext hW.1)
  replace ht := ht.ext (drew_ext hW.1)
  have hlt5 := with_lt (S := S) ho5 ht.lt (Nat.le_refl _)
  have hgr5 := with_new (S := S) ho5
  have hq := ht.cells.1 _ (Ext.refl _)
  have hf := blk_free ht.at_ (Ext.refl _) 0
  have hlen5 : (xs.take M).length = M := by rw [List.length_take]; omega
  have hwf5 : ∀ x ∈ xs.take M, (Lit.int .u8 x).wf = true := fun x hx => ht.wf x (List.mem_of_mem_take hx)
  clear hW d0 d1 w1 w2 w3 hE hE2
  by_cases hN0 : 0 < N
  · rw [if_pos hN0] at HC
    have hp := TapeIs.put ht.at_ (with_own ho5) (.inl ht.foot) hlt5 hwf5 (show safe ≤ M by omega) ⟨by omega, hm1⟩
    have hr5 := hp.own.rd hwf5
    obtain ⟨ad, rfl, hcb⟩ := hr5.at_ (j := M - 1) (by omega)
    obtain ⟨hz0, hz1⟩ := wf_u8 (hr5.wfAt (j := M - 1) (by omega))
    have HG : Hid ((xs.take M).getD (M - 1) 0 = (xs.take M).getD ((xs.take M).length - 1) 0) := Lib.hid (by rw [hlen5])
    generalize (xs.take M).getD (M - 1) 0 = b at *
    obtain ⟨e0, e1, _⟩ := hp.cells
    have ecb : ∀ W', Ext (W.setCell ⟨g, 0, none⟩ (.slice (some ad) M c5)) W' → W'.cell? (ad.add (M - 1)) = some (.int .u8 b) := fun W' he => he.cell_ hcb
    have w4 : IntKind.i64.wrap ((M : Int) - 1) = M - 1 := IntWalk.i64_in _ (by omega)
    have j0 : (0 : Int) ≤ (M : Int) - 1 := by omega
    have j1 : (M : Int) - 1 < M := by omega
    have j2 : ((M : Int) - 1).toNat = M - 1 := by omega
    have j3 : (1 : Int) ≤ M := by omega
    clear hcb
    go_wp2_with fail
    refine Lex.wp_region_tail 15 [] (by kernel_rfl) (by kernel_rfl) (by repeat (first | exact Lex.st_nil | refine Lex.st_cons (by first | exact Lex.nums_st | exact Lex.const_st | exact Lex.such_st | exact Lex.row_st | exact Lex.rowE_st | exact Lex.litR_st | assumption) ?_)) ?_; simp only [List.take_succ_cons, List.take_zero, List.drop_succ_cons, List.drop_zero]
    repeat (first | (refine Lex.lexT_skip (by rfl) ?_; simp only [Act.put, List.setIfInBounds_toArray, List.set_cons_zero, List.set_cons_succ]) | (refine Lex.lexT_still (by rfl) (by rfl) ?_; apply Exists.intro; refine ⟨fun W hW => ?_, ?_⟩; (have hE := hW.1; have hE2 := Base.Ext.trans (Base.Ext.drew (Base.Ext.refl _)) hW.1; clear hW; go_simp; try with_reducible rfl); simp only [Act.put, List.setIfInBounds_toArray, List.set_cons_zero, List.set_cons_succ]))
    refine Lex.lexT_nil (fun W hW => ?_)
    have hE4 := drew_ext hW.1
    have hp1 := hp.ext hE4
    have hcb1 := ecb _ hE4
    have hfb1 := own_free hp1.own (M - 1)
    have hne : ad.block ≠ g := fun e => hp1.own.ne hp1.at_ (by decide) (by rw [← e]; rfl)
    have hts : (xs.take M).set (M - 1) (Go.bits .xor .u8 b bits) = turn (xs.take M) bits := by rw [turn, ← HG.out, hlen5]
    have ho6 := own_set hp1.own (j := M - 1) (by omega) (Go.bits .xor .u8 b bits)
    rw [hts] at ho6
    have hat6 : (W.setCell (ad.add (M - 1)) (.int .u8 (Go.bits .xor .u8 b bits))).heap[g]? = some (.cells #[.slice (some ad) M c5, .int .i64 safe, .int .i64 most] 181 (0, 0)) := by
      rw [Below.heap_setCell _ _ _ _ (by rw [block_add]; exact fun e => hne e.symm)]
      exact hp1.at_
    have hwf6 : ∀ x ∈ turn (xs.take M) bits, (Lit.int .u8 x).wf = true := fun x hx => by
      rcases List.mem_or_eq_of_mem_set hx with h1 | h1
      · exact hwf5 x h1
      · rw [h1]; have := TapeP.bits_u8 ((xs.take M).getD ((xs.take M).length - 1) 0) bits; exact u8_wf this.1 this.2
    have hp6 : TapeIs (W.setCell (ad.add (M - 1)) (.int .u8 (Go.bits .xor .u8 b bits))) (With S (.slice (some ad) M c5)) g (some ad) M c5 (turn (xs.take M) bits) safe most :=
      ⟨hat6, ho6, hp1.foot, hwf6, fun i hi => by simpa using hp1.lt i hi, hp1.safe, hp1.most⟩
    have hq6 := hp6.cells.1 _ (Ext.refl _)
    have hs6 := hp6.cells.2.1 _ (Ext.refl _)
    have hf6 := blk_free hp6.at_ (Ext.refl _) 1
    have hp7 := hp6.sync (safe' := M) (Nat.le_refl _)
    have hch : Chg (With S (.slice (some ad) M c5)) w W := (Chg.setCell (Below.chg hE3) (p := ⟨g, 0, none⟩) (.inl ht.foot) _).trans (Below.chg hE4)
    have hch7 := Chg.setCell (Chg.setCell hch (p := ad.add (M - 1)) (.inr (by rw [block_add]; rfl)) (.int .u8 (Go.bits .xor .u8 b bits))) (p := ⟨g, 1, none⟩) (.inl ht.foot) (.int .i64 M)
    clear hW ecb e0 e1 w4 j0 j1 j2 hts
    go_wp2_with fail
    go_ret
    rw [HC.out]
    exact ⟨ret_int (by omega), _, ⟨some ad, M, c5, hp7⟩, hch7.mono fun i hi h => (hgr5 i h).elim id fun h2 => by omega, hgr5⟩
  · rw [if_neg hN0] at HC
    obtain rfl : N = 0 := by omega
    have hp := TapeIs.put' ht.at_ (with_own ho5) (.inl ht.foot) hlt5 hwf5 M (Nat.le_refl _) ⟨by omega, hm1⟩
    have hput2 := hp.2
    have hc50 := hp.1.1
    have hc5 := hp.1.2.1
    have hf5 := hp.1.2.2
    clear hp
    go_wp2_with fail
    go_ret
    rw [HC.out]
    exact ⟨ret_int (by omega), _, ⟨A5, M, c5, hput2⟩, Chg.setCell (Chg.setCell (Below.chg hE3) (p := ⟨g, 0, none⟩) ht.foot _) (p := ⟨g, 1, none⟩) ht.foot _, hgr5⟩

set_option maxRecDepth 100000 in
set_option maxHeartbeats 400000 in
theorem cut_no (S : Nat → Prop) (g : Nat) (xs : List Int) (safe : Nat) (most : Int) (n : Int) (w : World) (h : Tape w S g xs safe most) (hn : n < 0 ∨ xs.length < n) :
    Calls Try.prog 154 #[.pointer (some ⟨g, 0, none⟩), .int .i64 n] w fun e w' => e = .returned (.int .i64 1) ∧ Ext w w' := by
  obtain ⟨A, n', c, h⟩ := h
  obtain rfl := h.len
  have c0 := h.cells.1 _ (Ext.refl w)
  rcases hn with hn | hn
  · go_enter Try.func154, Try.ntmps154
    go_wp2_with fail
    go_ret
    exact ⟨rfl, Ext.refl _⟩
  · have h0 : ¬ n < 0 := by omega
    go_enter Try.func154, Try.ntmps154
    go_wp2_with fail
    go_ret
    exact ⟨rfl, Ext.refl _⟩
set_option maxRecDepth 100000 in
theorem read_nil (w : World) : Calls Try.prog 153 #[.pointer none] w fun e w' => e = .returned (.slice none 0 0) ∧ w = w' := by
  go_enter Try.func153, Try.ntmps153
  go_wp2_with fail
  go_ret
  exact ⟨rfl, rfl⟩
set_option maxRecDepth 100000 in
theorem crash_nil (w : World) : Calls Try.prog 49 #[.pointer none, .int .i64 1, .int .u8 1] w fun e w' => e = .returned (.int .i64 0) ∧ w = w' := by
  go_enter Try.func49, Try.ntmps49
  go_wp2_with fail
  go_ret
  exact ⟨rfl, rfl⟩
set_option maxRecDepth 100000 in
theorem append_nil (w : World) : Calls Try.prog 166 #[.pointer none, .slice none 0 0] w fun e w' => e = .returned (.int .i64 3) ∧ w = w' := by
  go_enter Try.func166, Try.ntmps166
  go_wp2_with fail
  go_ret
  exact ⟨rfl, rfl⟩
set_option maxRecDepth 100000 in
theorem sync_nil (w : World) : Calls Try.prog 168 #[.pointer none] w fun e w' => e = .returned (.int .i64 3) ∧ w = w' := by
  go_enter Try.func168, Try.ntmps168
  go_wp2_with fail
  go_ret
  exact ⟨rfl, rfl⟩
set_option maxRecDepth 100000 in
theorem cut_nil (w : World) : Calls Try.prog 154 #[.pointer none, .int .i64 0] w fun e w' => e = .returned (.int .i64 3) ∧ w = w' := by
  go_enter Try.func154, Try.ntmps154
  go_wp2_with fail
  go_ret
  exact ⟨rfl, rfl⟩
end Go.Proofs.Ytipmkddcdnbihaa.Tape
