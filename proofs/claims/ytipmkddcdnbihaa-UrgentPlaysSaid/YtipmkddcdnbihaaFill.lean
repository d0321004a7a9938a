/- A region in which a struct result is stored into a block that was laid in this region: 'x, f := g(..)' where x lies in memory. No program in sight. -/
import Derived.Test.YtipmkddcdnbihaaLexU
import Derived.Test.YtipmkddcdnbihaaVec
namespace Go.Proofs.Ytipmkddcdnbihaa.Lex
open Go.RowKit Base

/-- Nothing that w0 had has turned; what is newer and of type T may have been stored anew, and then reads as p says. -/
structure Fill (w0 : World) (T : TypeId) (p : Array Value → World → Prop) (a b : World) : Prop where
  os : b.os = a.os
  tape : b.tape = a.tape
  output : b.output = a.output
  size : a.heap.size ≤ b.heap.size
  block : ∀ i, i < a.heap.size → b.heap[i]? = a.heap[i]? ∨ (w0.heap.size ≤ i ∧ ∃ c c', a.heap[i]? = some (.cells c T (0, 0)) ∧ b.heap[i]? = some (.cells c' T (0, 0)) ∧ c'.size = c.size ∧ p c' b)
/-- What may have been stored anew. -/
abbrev NewT (w0 : World) (T : TypeId) (a : World) : Nat → Prop := fun i => w0.heap.size ≤ i ∧ ∃ c, a.heap[i]? = some (.cells c T (0, 0))
section
variable {w0 : World} {T : TypeId} {p : Array Value → World → Prop}
theorem Fill.refl (a : World) : Fill w0 T p a a := ⟨rfl, rfl, rfl, Nat.le_refl _, fun _ _ => .inl rfl⟩
theorem Fill.chg {a b : World} (h : Fill w0 T p a b) : Chg (NewT w0 T a) a b := ⟨h.os, h.tape, h.output, h.size, fun i hi hn => (h.block i hi).elim id fun ⟨h1, c, c', h2, _⟩ => absurd ⟨h1, c, h2⟩ hn⟩
theorem Fill.trans (hp : ∀ c a b, p c a → Fill w0 T p a b → p c b) {a b c : World} (h : Fill w0 T p a b) (k : Fill w0 T p b c) : Fill w0 T p a c :=
  ⟨k.os.trans h.os, k.tape.trans h.tape, k.output.trans h.output, Nat.le_trans h.size k.size, fun i hi => by
    have hi2 := Nat.lt_of_lt_of_le hi h.size
    rcases h.block i hi with h1 | ⟨h1, c1, c2, h2, h3, h4, h5⟩ <;> rcases k.block i hi2 with k1 | ⟨k1, d1, d2, k2, k3, k4, k5⟩
    · exact .inl (k1.trans h1)
    · exact .inr ⟨k1, d1, d2, h1.symm.trans k2, k3, k4, k5⟩
    · exact .inr ⟨h1, c1, c2, h2, k1.trans h3, h4, hp _ _ _ h5 k⟩
    · rw [h3] at k2
      cases k2
      exact .inr ⟨h1, c1, d2, h2, k3, k4.trans h4, k5⟩⟩
theorem Fill.of_ext {a b : World} (h : Ext a b) : Fill w0 T p a b := ⟨h.os, h.tape, h.output, h.size, fun i hi => .inl (h.block i hi)⟩
/-- From w0 on: nothing old has turned. -/
theorem Fill.ext {b : World} (h : Fill w0 T p w0 b) : Ext w0 b := ⟨h.os, h.tape, h.output, h.size, fun i hi => (h.block i hi).elim id fun ⟨h1, _⟩ => by omega⟩
theorem own_fill {a b : World} {S : Nat → Prop} {e : TypeId} {size n : Nat} {v : Value} {xs : List Value} (ho : Own a S e size v n xs) (h : Fill w0 T p a b) (hne : e ≠ T) : Own b S e size v n xs :=
  Vec.Own.kind ho h.chg fun i ⟨_, c, hc⟩ _ => ⟨c, T, _, hc, hne⟩
theorem row_stF {w1 : World} {e : TypeId} {k : IntKind} {n : Nat} {xs : List Int} (hne : e ≠ T) : (Loose.row w1 e k n xs).St (Fill w0 T p) := fun _ _ _ h he A c e => own_fill (h A c e) he hne
theorem const_stF {u : Value} : (Loose.const u).St (Fill w0 T p) := fun _ _ _ _ _ => trivial
theorem such_stF {q : Value → Prop} : (Loose.such q).St (Fill w0 T p) := fun _ _ _ _ _ => trivial
/-- A block for a struct result: not yet stored, or stored. -/
def laidF (w0 : World) (T : TypeId) (m : Nat) : Loose := ⟨fun v => ∃ g, v = .pointer (some ⟨g, 0, none⟩), fun v W => ∀ g, v = .pointer (some ⟨g, 0, none⟩) → w0.heap.size ≤ g ∧ ∃ c, c.size = m ∧ W.heap[g]? = some (.cells c T (0, 0))⟩
theorem laidF_st {m : Nat} : ∀ v W W', (laidF w0 T m).R v W → Fill w0 T p W W' → (laidF w0 T m).R v W' := fun v W W' h he g e => by
  obtain ⟨h1, c, h2, h3⟩ := h g e
  refine ⟨h1, ?_⟩
  rcases he.block g (Array.getElem?_eq_some_iff.1 h3).1 with k1 | ⟨_, d1, d2, k2, k3, k4, _⟩
  · exact ⟨c, h2, k1.trans h3⟩
  · rw [h3] at k2
    cases k2
    exact ⟨d2, k4.trans h2, k3⟩
theorem laidF_mk {W : World} {m : Nat} {c : Array Value} (hc : c.size = m) (hw : w0.heap.size ≤ W.heap.size) : (laidF w0 T m).R (.pointer (some ⟨W.heap.size, 0, none⟩)) (W.alloc (.cells c T)) := fun g e => by
  cases e
  exact ⟨hw, c, hc, at_new _ _⟩
/-- It has been stored. -/
def filledF (T : TypeId) (p : Array Value → World → Prop) (g : Nat) : Loose := ⟨fun v => v = undef, fun _ W => ∃ c, W.heap[g]? = some (.cells c T (0, 0)) ∧ p c W⟩
theorem filledF_st (hp : ∀ c a b, p c a → Fill w0 T p a b → p c b) {g : Nat} : ∀ v W W', (filledF T p g).R v W → Fill w0 T p W W' → (filledF T p g).R v W' := fun v W W' ⟨c, h1, h2⟩ he => by
  rcases he.block g (Array.getElem?_eq_some_iff.1 h1).1 with k1 | ⟨_, d1, d2, k2, k3, k4, k5⟩
  · exact ⟨c, k1.trans h1, hp _ _ _ h2 he⟩
  · exact ⟨d2, k3, k5⟩
theorem Fill.mk_ {a b : World} {g : Nat} {c c' : Array Value} (hg : w0.heap.size ≤ g) (hc : Chg (fun i => i = g) a b) (ha : a.heap[g]? = some (.cells c T (0, 0))) (hb : b.heap[g]? = some (.cells c' T (0, 0))) (hs : c'.size = c.size) (hp : p c' b) : Fill w0 T p a b :=
  ⟨hc.os, hc.tape, hc.output, hc.size, fun i hi => by
    by_cases hig : i = g
    · subst hig
      exact .inr ⟨hg, c, c', ha, hb, hs, hp⟩
    · exact .inl (hc.block i hi hig)⟩
end
section
variable {P : Program} {Q : Exit → Act → World → Prop}
theorem wp_region_fill {id : Nat} {a : Act} {w : World} {l : List Oper} (hd tl : List Nat) (T : TypeId) (p : Array Value → World → Prop) (hp : ∀ c a b, p c a → Fill w T p a b → p c b) (L : List (Nat × Loose)) (hm : P.follows .mixedOrders = true) (hB : ordB .any l.toArray [] hd tl = true) (hL : ∀ q ∈ L, q.2.St (Fill w T p))
    (h : lexU P .any l.toArray (Fill w T p) w.drew (spOf L) (wpList P l.toArray (onlyN Q) ((pick l tl).map (·.2))) (pick l hd) a (fun _ _ => True)) : (Code.region id l.toArray true).wp P Q a w :=
  wp_region_uE hd tl (Fill w T p) (spOf L) hm hB Fill.refl (fun _ _ _ => Fill.trans hp) (fun _ _ hs v W W' hr he => by obtain ⟨q, hq, rfl⟩ := spOf_mem hs; exact hL q hq v W W' hr he) h
end
/-- A literal's block. -/
def blkL (n : Nat) (T : TypeId) (C : Array Value) : Loose := ⟨fun v => ∃ g, v = .slice (some ⟨g, 0, none⟩) n n, fun v W => ∀ g, v = .slice (some ⟨g, 0, none⟩) n n → W.heap[g]? = some (.cells C T (0, 0))⟩
theorem blkL_st {n : Nat} {T : TypeId} {C : Array Value} : ∀ v W W', (blkL n T C).R v W → Ext W W' → (blkL n T C).R v W' := fun _ _ _ h he g e => he.at_ (h g e)
theorem blkL_mk {W : World} {n : Nat} {T : TypeId} {C : Array Value} : (blkL n T C).R (.slice (some ⟨W.heap.size, 0, none⟩) n n) (W.alloc (.cells C T)) := fun g e => by
  cases e
  exact at_new _ _
/-- An append, run. -/
theorem exec_append {P : Program} {o : Oper} {a : Act} {W W' : World} {v vs vx : Value} (s x : Operand) (t : TypeId) (ho : o.op = .call { callee := .builtin .append, args := #[s, x], argTypes := #[t, t] }) (hs : a.eval s = vs) (hx : a.eval x = vx)
    (hrun : (Builtin.append_ #[t, t] o.type #[vs, vx]).run P W = .ok v W') : (execOp a.eval o).run P W = .ok (.value v) W' := by
  simp only [execOp, ho, resolve, invoke, builtin, Sem.run_bind, Sem.run_pure, Result.andThen_ok, List.map_toArray, List.map_cons, List.map_nil, hs, hx, hrun]
/-- Whatever the relation: nothing old has turned. -/
class ToExt (E : World → World → Prop) (w : World) : Prop where
  ext : ∀ W, E w W → Ext w W
instance {w : World} : ToExt Ext w := ⟨fun _ h => h⟩
instance {w0 : World} {T : TypeId} {p : Array Value → World → Prop} : ToExt (Fill w0 T p) w0.drew := ⟨fun _ h => ⟨h.os, h.tape, h.output, h.size, fun i hi => (h.block i hi).elim id fun ⟨h1, _⟩ => by
  have : i < w0.heap.size := hi
  omega⟩⟩
theorem ext_of_cls {E : World → World → Prop} {w W : World} [ToExt E w] (h : E w W) : Ext w W := ToExt.ext W h
theorem onlyN_intro {P : Program} {ops : Array Oper} {Q : Exit → Act → World → Prop} {a : Act} {W : World} (h : Q .normal a W) : wpList P ops (onlyN Q) [] a W := h
theorem ext_drew {w W : World} (h : Ext w.drew W) : Ext w W := (Ext.refl w).drew.trans h
end Go.Proofs.Ytipmkddcdnbihaa.Lex
