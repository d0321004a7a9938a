/- A queue of jobs: a heap in a row, and where each job stands, in a map; the least contracts. -/
import Derived.Test.YtipmkddcdnbihaaUrgP
import Derived.Test.YtipmkddcdnbihaaMapX
import Derived.Test.YtipmkddcdnbihaaVec
import Derived.Test.YtipmkddcdnbihaaSplice
import Derived.Test.YtipmkddcdnbihaaLexU
import Derived.DeepKeys4
import Derived.Sort.Grow
namespace Go.Proofs.Ytipmkddcdnbihaa.Urg
open Go.RowKit Base Step MapIs Vec
open UrgP
structure Ok (j : Job) : Prop where
  o0 : 0 ≤ j.o
  o1 : j.o < 4294967296
  s0 : 0 ≤ j.s
  s1 : j.s < 65536
  g0 : -9223372036854775808 ≤ j.g
  g1 : j.g ≤ 9223372036854775807
def jobV (j : Job) : List Value := [.int .u32 j.o, .int .u16 j.s, .int .i64 j.g]
abbrev jobA (j : Job) : Value := .agg #[.int .u32 j.o, .int .u16 j.s, .int .i64 j.g]
abbrev kV (k : Int × Int) : Value := .agg #[.int .u32 k.1, .int .u16 k.2]
abbrev keyV (j : Job) : Value := .agg #[.int .u32 j.o, .int .u16 j.s]
theorem kV_inj {a b : Int × Int} (h : kV a = kV b) : a = b := by
  obtain ⟨a, a'⟩ := a
  obtain ⟨b, b'⟩ := b
  simp only [kV, Value.agg.injEq, Array.mk.injEq, List.cons.injEq, Value.int.injEq, true_and, and_true] at h
  obtain ⟨rfl, rfl⟩ := h
  rfl
theorem laid : laidOutB Try.prog = true := by kernel_rfl
theorem key_keyed : Maps.Keyed Try.prog 30 := Maps.Keyed.of_law (deep_law_laid laid (m := 9) (by decide) (of_decide_eq_true (by kernel_rfl)) (by kernel_rfl) (by kernel_rfl))
theorem key_of {o s : Int} (h1 : 0 ≤ o) (h2 : o < 4294967296) (h3 : 0 ≤ s) (h4 : s < 65536) : ∃ kl, keyOf Try.prog 30 (kV (o, s)) = some kl := by
  have hk : Try.prog.keyType 30 = true := by kernel_rfl
  have c0 : Try.prog.cellsOf 30 = 2 := by kernel_rfl
  have c1 : Try.prog.cellsOf 27 = 1 := by kernel_rfl
  have c2 : Try.prog.cellsOf 28 = 1 := by kernel_rfl
  have wo : (Lit.int .u32 o).wf = true := by simp [Lit.wf, IntKind.min, IntKind.max, IntKind.bits, IntKind.signed]; omega
  have ws : (Lit.int .u16 s).wf = true := by simp [Lit.wf, IntKind.min, IntKind.max, IntKind.bits, IntKind.signed]; omega
  obtain ⟨d, hd⟩ : ∃ d, Try.prog.types.size = d + 1 := ⟨Try.prog.types.size - 1, by have : 0 < Try.prog.types.size := of_decide_eq_true (by kernel_rfl); omega⟩
  simp only [kV, keyOf, Try.underlying30, hk, Bool.true_and]
  rw [hd]
  simp [Value.formed, Program.keyLits, Try.underlying30, Try.underlying27, Try.underlying28, c0, c1, c2, wo, ws, Value.cells]
theorem info_job : (Try.prog.info? 32).map (fun i => (i.zero, i.size, i.bytes)) = some (some (.agg #[.int .u32 0, .int .u16 0, .int .i64 0]), 3, 16) := by kernel_rfl
theorem int_zero (w : World) : (zeroValue 3).run Try.prog w = .ok (.int .i64 0) w := by kernel_rfl
/-- Where each job stands. -/
def ents (l : List Job) : List (Value × Int) := l.zipIdx.map fun p => (keyV p.1, (p.2 : Int))
theorem ents_keys (l : List Job) : (ents l).map (·.1) = l.map keyV := by
  unfold ents
  rw [List.map_map]
  have : (Prod.fst ∘ fun p : Job × Nat => (keyV p.1, (p.2 : Int))) = keyV ∘ Prod.fst := rfl
  rw [this, ← List.map_map, List.zipIdx_map_fst]
theorem ents_len (l : List Job) : (ents l).length = l.length := by simp [ents]
theorem ents_mem {l : List Job} {p : Value × Int} : p ∈ ents l ↔ ∃ (i : Nat) (j : Job), l[i]? = some j ∧ p = (keyV j, (i : Int)) := by
  unfold ents
  rw [List.mem_map]
  constructor
  · rintro ⟨⟨j, i⟩, h1, rfl⟩
    exact ⟨i, j, by simpa using List.mem_zipIdx_iff_getElem?.1 h1, rfl⟩
  · rintro ⟨i, j, h1, rfl⟩
    exact ⟨(j, i), List.mem_zipIdx_iff_getElem?.2 (by simpa using h1), rfl⟩
theorem keyV_iff {a b : Job} : keyV a = keyV b ↔ UrgP.key a = UrgP.key b := ⟨fun h => kV_inj (a := UrgP.key a) (b := UrgP.key b) h, fun h => by
  have h1 : kV (UrgP.key a) = kV (UrgP.key b) := by rw [h]
  exact h1⟩
/-- The job of a key. -/
theorem key_mem {l : List Job} {k : Value} (h : k ∈ l.map keyV) : ∃ i : Nat, i < l.length ∧ k = keyV (at_ l i) := by
  obtain ⟨j, hj, rfl⟩ := List.mem_map.1 h
  obtain ⟨i, hi, he⟩ := List.getElem_of_mem hj
  exact ⟨i, hi, by rw [at_eq (by rw [List.getElem?_eq_getElem hi, he])]⟩
structure QueAt (w : World) (S : Nat → Prop) (gq gm : Nat) (l : List Job) : Prop where
  row : ∃ A c, w.heap[gq]? = some (.cells #[.slice A l.length c, .map (some gm)] 53 (0, 0)) ∧ Own w S 32 3 (.slice A l.length c) l.length (l.flatMap jobV)
  mp : Mp Try.prog 30 3 w gm (ents l)
  ok : ∀ j ∈ l, Ok j
  sq : S gq
  sm : S gm
  lt : ∀ i, S i → i < w.heap.size
theorem QueAt.nodup {w : World} {S : Nat → Prop} {gq gm : Nat} {l : List Job} (h : QueAt w S gq gm l) : (l.map keyV).Nodup := by
  have := h.mp.nodup
  rwa [ents_keys] at this
theorem QueAt.ext {w w' : World} {S : Nat → Prop} {gq gm : Nat} {l : List Job} (h : QueAt w S gq gm l) (he : Ext w w') : QueAt w' S gq gm l := by
  obtain ⟨A, c, h1, h2⟩ := h.row
  exact ⟨⟨A, c, he.at_ h1, h2.extNew he⟩, h.mp.ext he, h.ok, h.sq, h.sm, fun i hi => he.lt (h.lt i hi)⟩
theorem QueAt.chg {w w' : World} {S S2 : Nat → Prop} {gq gm : Nat} {l : List Job} (h : QueAt w S gq gm l) (hc : Chg S2 w w') (hd : ∀ i, S i → ¬ S2 i) : QueAt w' S gq gm l := by
  obtain ⟨A, c, h1, h2⟩ := h.row
  exact ⟨⟨A, c, hc.at_ h1 (hd _ h.sq), h2.chg hc hd⟩, h.mp.chg hc (hd _ h.sm), h.ok, h.sq, h.sm, fun i hi => Nat.lt_of_lt_of_le (h.lt i hi) hc.size⟩
theorem QueAt.mono {w : World} {S S2 : Nat → Prop} {gq gm : Nat} {l : List Job} (h : QueAt w S gq gm l) (hS : ∀ i, S i → S2 i) (hlt : ∀ i, S2 i → i < w.heap.size) : QueAt w S2 gq gm l := by
  obtain ⟨A, c, h1, h2⟩ := h.row
  exact ⟨⟨A, c, h1, h2.mono fun i _ => hS i⟩, h.mp, h.ok, hS _ h.sq, hS _ h.sm, hlt⟩
theorem Mp.blk {P : Program} {k e : TypeId} {w : World} {b : Nat} {l : List (Value × Int)} (h : Mp P k e w b l) : ∃ es clock, w.heap[b]? = some (.map es clock) := by
  obtain ⟨D, ⟨es, clock, h1, _⟩, _⟩ := h.own
  exact ⟨es, clock, h1⟩
/-- The map's block is no row's. -/
theorem Mp.ne_own {P : Program} {k e T : TypeId} {w : World} {b size n : Nat} {l : List (Value × Int)} (h : Mp P k e w b l) {S : Nat → Prop} {v : Value} {xs : List Value} (ho : Own w S T size v n xs) : v.ownBlock ≠ some b := fun hb => by
  obtain ⟨es, clock, h1⟩ := Mp.blk h
  obtain ⟨c, f, h2⟩ := own_kind ho hb
  rw [h1] at h2
  cases h2
theorem Mp.ne_at {P : Program} {k e T : TypeId} {w : World} {b g : Nat} {l : List (Value × Int)} (h : Mp P k e w b l) {c : Array Value} {f : Nat × Nat} (ho : w.heap[g]? = some (.cells c T f)) : g ≠ b := fun hb => by
  obtain ⟨es, clock, h1⟩ := Mp.blk h
  rw [hb, h1] at ho
  cases ho
theorem flat_len (l : List Job) : (l.flatMap jobV).length = l.length * 3 := by
  induction l with
  | nil => rfl
  | cons j l ih => rw [List.flatMap_cons, List.length_append, ih, List.length_cons]; show 3 + _ = _; omega
theorem flat_at {l : List Job} {i : Nat} {j : Job} (h : l[i]? = some j) {c : Nat} {v : Value} (hv : (jobV j)[c]? = some v) : (l.flatMap jobV)[i * 3 + c]? = some v := by
  induction l generalizing i with
  | nil => cases h
  | cons a l ih =>
    rw [List.flatMap_cons]
    have h3 : (jobV a).length = 3 := rfl
    cases i with
    | zero =>
      simp only [List.getElem?_cons_zero, Option.some.injEq] at h
      subst h
      rw [Nat.zero_mul, Nat.zero_add, List.getElem?_append_left (List.getElem?_eq_some_iff.1 hv).1]
      exact hv
    | succ i =>
      rw [List.getElem?_append_right (by rw [h3]; omega), h3, show (i + 1) * 3 + c - 3 = i * 3 + c by omega]
      exact ih (by simpa using h)
/-- A job's cells in the row. -/
theorem row_cell {w : World} {S : Nat → Prop} {A : Option Addr} {n c : Nat} {l : List Job} (h : Own w S 32 3 (.slice A n c) n (l.flatMap jobV)) {i : Nat} {j : Job} (hj : l[i]? = some j) : ∃ g, A = some ⟨g, 0, none⟩ ∧ w.cell? ⟨g, i * 3, none⟩ = some (.int .u32 j.o) ∧ w.cell? ⟨g, i * 3 + 1, none⟩ = some (.int .u16 j.s) ∧ w.cell? ⟨g, i * 3 + 2, none⟩ = some (.int .i64 j.g) := by
  have h0 := flat_at hj (c := 0) (v := .int .u32 j.o) rfl
  have h1 := flat_at hj (c := 1) (v := .int .u16 j.s) rfl
  have h2 := flat_at hj (c := 2) (v := .int .i64 j.g) rfl
  obtain ⟨ad, rfl, k0⟩ := own_cell h h0
  obtain ⟨_, e1, k1⟩ := own_cell h h1
  obtain ⟨_, e2, k2⟩ := own_cell h h2
  cases e1
  cases e2
  obtain ⟨g, cur, rfl, _⟩ := Splice.blk_own h
  rw [Splice.add_zero_, Nat.zero_add] at k0 k1 k2
  exact ⟨g, rfl, by simpa using k0, k1, k2⟩
set_option maxRecDepth 100000 in
theorem new_calls (w : World) : Calls Try.prog 14 #[] w fun e w' => ∃ gq gm, e = .returned (.pointer (some ⟨gq, 0, none⟩)) ∧ QueAt w' (Plus (fun _ => False) w w') gq gm [] ∧ Ext w w' := by
  have hmm := @run_makeMap Try.prog
  go_enter Try.func14, Try.ntmps14
  go_wp2_with fail
  go_ret
  have e1 := Ext.new w (.map #[] 0)
  have e2 := Ext.new (w.alloc (.map #[] 0)) (.cells #[.slice none 0 0, .map (some w.heap.size)] 53)
  have hb := at_new (w.alloc (.map #[] 0)) (.cells #[.slice none 0 0, .map (some w.heap.size)] 53)
  refine ⟨_, w.heap.size, rfl, ⟨⟨none, 0, by simpa using hb, Own.nil _ _ _ _⟩, (mp_made w).ext e2, by simp, .inr ⟨by simp, by simp⟩, .inr ⟨Nat.le_refl _, by simp; omega⟩, fun i hi => hi.elim (fun k => k.elim) fun k => k.2⟩, e1.trans e2⟩
set_option maxRecDepth 100000 in
theorem len_calls (S : Nat → Prop) (gq gm : Nat) (l : List Job) (w : World) (h : QueAt w S gq gm l) : Calls Try.prog 18 #[.pointer (some ⟨gq, 0, none⟩)] w fun e w' => e = .returned (.int .i64 l.length) ∧ w = w' := by
  obtain ⟨A, c, h1, _⟩ := h.row
  have c0 : w.cell? ⟨gq, 0, none⟩ = some (.slice A l.length c) := blk_cell (i := 0) h1 (Ext.refl _) rfl
  clear h h1
  go_enter Try.func18, Try.ntmps18
  go_wp2_with fail
  go_ret
  exact ⟨rfl, rfl⟩
theorem len_nil (w : World) : Calls Try.prog 18 #[.pointer none] w fun e w' => e = .returned (.int .i64 0) ∧ w = w' := by
  go_enter Try.func18, Try.ntmps18
  go_wp2_with fail
  go_ret
  exact ⟨rfl, rfl⟩
open Go.Sort in
set_option maxRecDepth 100000 in
/-- ahead: two blocks are laid, nothing else is done. -/
theorem ahead_exact (a b : Job) (w : World) : Calls Try.prog 79 #[jobA a, jobA b] w fun e w' => e = .returned (.bool (UrgP.ahead a b)) ∧ ∃ os, w' = grow w os := by
  obtain ⟨r, hr⟩ : ∃ r, r = UrgP.ahead a b := ⟨_, rfl⟩
  have HR := Lib.hid hr
  rw [← hr]
  clear hr
  obtain ⟨o, s, g⟩ := a
  obtain ⟨o', s', g'⟩ := b
  go_enter Try.func79, Try.ntmps79
  by_cases h1 : g = g'
  · by_cases h2 : o = o'
    · go_wp2_with fail
      go_ret
      exact ⟨by rw [HR.out, UrgP.ahead, if_pos h1, if_pos h2]; rfl, _, by rw [alloc_eq_grow, alloc_eq_grow, grow_grow]⟩
    · go_wp2_with fail
      go_ret
      exact ⟨by rw [HR.out, UrgP.ahead, if_pos h1, if_neg h2]; rfl, _, by rw [alloc_eq_grow, alloc_eq_grow, grow_grow]⟩
  · go_wp2_with fail
    go_ret
    exact ⟨by rw [HR.out, UrgP.ahead, if_neg h1]; rfl, _, by rw [alloc_eq_grow, alloc_eq_grow, grow_grow]⟩
open Go.Sort in
theorem grow_ext (w : World) (os : Array Obj) : Ext w (grow w os) := ⟨rfl, rfl, rfl, by simp [grow], fun i hi => by
  show (w.heap ++ os)[i]? = _
  rw [Array.getElem?_append_left hi]⟩
theorem ahead_calls (a b : Job) (w : World) : Calls Try.prog 79 #[jobA a, jobA b] w fun e w' => e = .returned (.bool (UrgP.ahead a b)) ∧ Ext w w' :=
  (ahead_exact a b w).mono fun e w' ⟨h1, os, h2⟩ => ⟨h1, h2 ▸ grow_ext w os⟩
open Go.Sort in
set_option maxRecDepth 100000 in
/-- All's order. -/
theorem order_exact (a b : Job) (w : World) : Calls Try.prog 78 #[jobA a, jobA b] w fun e w' => e = .returned (.int .i64 (if UrgP.ahead a b then -1 else 1)) ∧ ∃ os, w' = grow w os := by
  obtain ⟨o, s, g⟩ := a
  obtain ⟨o', s', g'⟩ := b
  have hw : ∃ os, (w.alloc (.cells #[.int .u32 o, .int .u16 s, .int .i64 g] 32)).alloc (.cells #[.int .u32 o', .int .u16 s', .int .i64 g'] 32) = grow w os := ⟨_, by rw [alloc_eq_grow, alloc_eq_grow, grow_grow]⟩
  obtain ⟨os, hos⟩ := hw
  have HW := Lib.hid hos
  clear hos
  obtain ⟨r, hr⟩ : ∃ r, r = UrgP.ahead ⟨o, s, g⟩ ⟨o', s', g'⟩ := ⟨_, rfl⟩
  have HR := Lib.hid hr
  rw [← hr]
  clear hr
  cases r
  · go_enter Try.func78, Try.ntmps78
    go_wp2_with fail
    refine (ahead_exact ⟨o, s, g⟩ ⟨o', s', g'⟩ _).mono ?_
    rintro e w1 ⟨rfl, os1, rfl⟩
    rw [← HR.out]
    go_wp2_with fail
    go_ret
    exact ⟨rfl, os ++ os1, by rw [HW.out, grow_grow]⟩
  · go_enter Try.func78, Try.ntmps78
    go_wp2_with fail
    refine (ahead_exact ⟨o, s, g⟩ ⟨o', s', g'⟩ _).mono ?_
    rintro e w1 ⟨rfl, os1, rfl⟩
    rw [← HR.out]
    go_wp2_with fail
    go_ret
    exact ⟨rfl, os ++ os1, by rw [HW.out, grow_grow]⟩
end Go.Proofs.Ytipmkddcdnbihaa.Urg
