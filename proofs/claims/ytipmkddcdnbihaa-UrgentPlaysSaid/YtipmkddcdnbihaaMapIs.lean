/- A map of whole numbers that the call has made, by its entries; keys of whatever type. No program in sight. -/
import Derived.Test.YtipmkddcdnbihaaStep
import Derived.Maps.OwnSet
import Derived.Maps.OwnOps
import Derived.Maps.RangeWalk
import Derived.Maps.Ext
namespace Go.Proofs.Ytipmkddcdnbihaa.MapIs
open Go.RowKit Base Step Go.Maps
section
variable {P : Program} {k e : TypeId}
/-- Block b is a map: of these keys, in whatever order, each with its number. -/
structure Mp (P : Program) (k e : TypeId) (w : World) (b : Nat) (l : List (Value × Int)) : Prop where
  own : ∃ D : DataW Unit, w.ownsMap P k (plainElem P e) b l.length D ∧ Maps.size D = l.length ∧ (∀ key kl, keyOf P k key = some kl → (Maps.has D kl = true ↔ key ∈ l.map (·.1)) ∧ ∀ c, (key, c) ∈ l → ∀ z, D.atKey kl z = .lit (.int .i64 c))
  keys : ∀ p ∈ l, (∃ kl, keyOf P k p.1 = some kl) ∧ (Lit.int .i64 p.2).wf = true
  nodup : (l.map (·.1)).Nodup
theorem Mp.kept {w w' : World} {b : Nat} {l : List (Value × Int)} (h : Mp P k e w b l) (hb : w'.heap[b]? = w.heap[b]?) : Mp P k e w' b l := by
  obtain ⟨D, ⟨es, clock, h1, h2⟩, h3⟩ := h.own
  exact ⟨⟨D, ⟨es, clock, hb.trans h1, h2⟩, h3⟩, h.keys, h.nodup⟩
theorem Mp.lt {w : World} {b : Nat} {l : List (Value × Int)} (h : Mp P k e w b l) : b < w.heap.size := by
  obtain ⟨D, h1, _⟩ := h.own
  exact h1.lt
theorem Mp.ext {w w' : World} {b : Nat} {l : List (Value × Int)} (h : Mp P k e w b l) (he : Ext w w') : Mp P k e w' b l := h.kept (he.block b h.lt)
theorem Mp.chg {S : Nat → Prop} {w w' : World} {b : Nat} {l : List (Value × Int)} (h : Mp P k e w b l) (hc : Chg S w w') (hs : ¬ S b) : Mp P k e w' b l := h.kept (hc.block b h.lt hs)
theorem mp_made (w : World) : Mp P k e (w.alloc (.map #[] 0)) w.heap.size [] :=
  ⟨⟨.map [], World.ownsMap_made w P k _, rfl, fun key kl _ => ⟨by simp [Maps.has], by simp⟩⟩, by simp, by simp⟩
theorem Mp.len {t : TypeId} {w : World} {b : Nat} {l : List (Value × Int)} (h : Mp P k e w b l) (ht : P.underlying t = some (.map k e)) (ty : TypeId) : (Builtin.len_ #[t] ty #[.map (some b)]).run P w = .ok (.int .i64 l.length) w := by
  obtain ⟨D, h1, h2, _⟩ := h.own
  rw [h1.len ht ty, h2]
/-- A key that is there. -/
theorem Mp.hit {t : TypeId} {w : World} {b : Nat} {l : List (Value × Int)} (h : Mp P k e w b l) (K : Keyed P k) (ht : P.underlying t = some (.map k e)) (he : P.underlying e = some (.int .i64)) (hz : (zeroValue e).run P w = .ok (.int .i64 0) w) {key : Value} {c : Int} (hm : (key, c) ∈ l) :
    (Instr.lookup t (.map (some b)) key true).run P w = .ok (.tuple #[.int .i64 c, .bool true]) w ∧ (Instr.lookup t (.map (some b)) key false).run P w = .ok (.int .i64 c) w := by
  obtain ⟨D, h1, h2, h3⟩ := h.own
  obtain ⟨⟨kl, hkl⟩, _⟩ := h.keys _ hm
  obtain ⟨h4, h5⟩ := h3 key kl hkl
  have hat := h5 c hm
  have hhas : Maps.has D kl = true := h4.2 (List.mem_map.2 ⟨_, hm, rfl⟩)
  constructor
  · obtain ⟨v, ps, hrun, hv⟩ := h1.look_ok K ht hz (plainElem_int he (by decide)) hkl
    rw [hat] at hv
    obtain ⟨x, rfl, hx, _⟩ := plainElem_int_inv he hv
    simp only [Prod.mk.injEq, DataW.lit.injEq, Lit.int.injEq, true_and] at hx
    rw [hrun, hhas, hx.1]
  · obtain ⟨x, hrun, hx, _⟩ := h1.lookup_int K ht he hz hkl
    rw [hat] at hx
    simp only [DataW.lit.injEq, Lit.int.injEq, true_and] at hx
    rw [hrun, hx]
/-- A key that is not there. -/
theorem Mp.miss {t : TypeId} {w : World} {b : Nat} {l : List (Value × Int)} (h : Mp P k e w b l) (K : Keyed P k) (ht : P.underlying t = some (.map k e)) (he : P.underlying e = some (.int .i64)) (hz : (zeroValue e).run P w = .ok (.int .i64 0) w) {key : Value} {kl : Lit} (hkl : keyOf P k key = some kl) (hm : key ∉ l.map (·.1)) :
    (Instr.lookup t (.map (some b)) key true).run P w = .ok (.tuple #[.int .i64 0, .bool false]) w := by
  obtain ⟨D, h1, h2, h3⟩ := h.own
  obtain ⟨h4, _⟩ := h3 key kl hkl
  have hhas : Maps.has D kl = false := by
    cases hh : Maps.has D kl with
    | false => rfl
    | true => exact absurd (h4.1 hh) hm
  obtain ⟨v, ps, hrun, hv⟩ := h1.look_ok K ht hz (plainElem_int he (by decide)) hkl
  rw [Maps.atKey_of_not_has hhas] at hv
  obtain ⟨x, rfl, hx, _⟩ := plainElem_int_inv he hv
  simp only [Prod.mk.injEq, DataW.lit.injEq, Lit.int.injEq, true_and] at hx
  rw [hrun, hhas, ← hx.1]
/-- A new key is laid in. -/
theorem Mp.put {t : TypeId} {w : World} {b : Nat} {l : List (Value × Int)} (h : Mp P k e w b l) (K : Keyed P k) (ht : P.underlying t = some (.map k e)) (he : P.underlying e = some (.int .i64)) (hl : l.length < maxLen) {key : Value} {kl : Lit} (hkl : keyOf P k key = some kl) (hm : key ∉ l.map (·.1)) {c : Int} (hc : (Lit.int .i64 c).wf = true) :
    ∃ w', (Instr.mapUpdate t (.map (some b)) key (.int .i64 c)).run P w = .ok () w' ∧ Mp P k e w' b (l ++ [(key, c)]) ∧ Chg (fun i => i = b) w w' := by
  obtain ⟨D, h1, h2, h3⟩ := h.own
  obtain ⟨h4, _⟩ := h3 key kl hkl
  have hhas : Maps.has D kl = false := by
    cases hh : Maps.has D kl with
    | false => rfl
    | true => exact absurd (h4.1 hh) hm
  obtain ⟨w', hrun, h5, h6⟩ := h1.update K ht hl hkl (plainElem_int he hc)
  have hkey := K.key hkl
  refine ⟨w', hrun, ⟨⟨_, by simpa using h5, ?_, fun key' kl' hkl' => ?_⟩, ?_, ?_⟩, ⟨h6.os, h6.tape, h6.output, h6.size, fun i hi hn => h6.block i hi fun e => hn (Option.some.inj e)⟩⟩
  · rw [Maps.size_put (h1.tidy K), hhas, h2]
    simp
  · by_cases hne : kl' = kl
    · subst hne
      have hkk : key' = key := K.inj hkl' hkl
      subst hkk
      refine ⟨?_, fun c' hc' z => ?_⟩
      · rw [Maps.has_put_same h1.isMap hkey]
        simp
      · rw [Maps.atKey_put_same h1.isMap hkey]
        rcases List.mem_append.1 hc' with h7 | h7
        · exact absurd (List.mem_map.2 ⟨_, h7, rfl⟩) hm
        · simp at h7
          rw [h7]
    · obtain ⟨h7, h8⟩ := h3 key' kl' hkl'
      have hkk : key' ≠ key := fun h => by
        subst h
        rw [hkl] at hkl'
        exact hne (Option.some.inj hkl').symm
      refine ⟨?_, fun c' hc' z => ?_⟩
      · rw [Maps.has_put_other hne, h7]
        simp [hkk]
      · rw [Maps.atKey_put_other hne]
        rcases List.mem_append.1 hc' with h9 | h9
        · exact h8 c' h9 z
        · simp at h9
          exact absurd h9.1 hkk
  · intro p hp
    rcases List.mem_append.1 hp with hp | hp
    · exact h.keys p hp
    · simp at hp
      subst hp
      exact ⟨⟨kl, hkl⟩, hc⟩
  · rw [List.map_append, List.nodup_append]
    refine ⟨h.nodup, by simp, fun a ha b hb => ?_⟩
    simp at hb
    subst hb
    exact fun h => hm (h ▸ ha)
/-- A range over it under way: which keys are still to come. -/
def Rg (P : Program) (k e : TypeId) (w : World) (b r : Nat) (l : List (Value × Int)) (todo : Value → Prop) (cnt : Nat) : Prop :=
  ∃ (D : DataW Unit) (left : Lit → Bool), w.ranges P k (plainElem P e) b r l.length D left cnt ∧ (∀ key kl, keyOf P k key = some kl → ((Maps.has D kl = true ↔ key ∈ l.map (·.1)) ∧ ∀ c, (key, c) ∈ l → ∀ z, D.atKey kl z = .lit (.int .i64 c)) ∧ (left kl = true ↔ todo key))
theorem grown_chg {w w' : World} {r : Nat} (h : w.grownBy w' (some r)) : Chg (fun i => i = r) w w' := ⟨h.os, h.tape, h.output, h.size, fun i hi hn => h.block i hi fun e => hn (Option.some.inj e)⟩
theorem Mp.range {t : TypeId} {w : World} {b : Nat} {l : List (Value × Int)} (h : Mp P k e w b l) (K : Keyed P k) (ht : P.underlying t = some (.map k e)) :
    ∃ w', (Instr.range t (.map (some b))).run P w = .ok (.pointer (some ⟨w.heap.size, 0, none⟩)) w' ∧ Rg P k e w' b w.heap.size l (fun key => key ∈ l.map (·.1)) l.length ∧ Ext w w' := by
  obtain ⟨D, h1, h2, h3⟩ := h.own
  obtain ⟨w', hrun, hr, hg, _⟩ := h1.range K ht
  rw [h2] at hr
  exact ⟨w', hrun, ⟨D, _, hr, fun key kl hkl => ⟨h3 key kl hkl, (h3 key kl hkl).1⟩⟩, ⟨hg.os, hg.tape, hg.output, hg.size, fun i hi => hg.block i hi (by simp)⟩⟩
theorem Rg.kept {w w' : World} {b r : Nat} {l : List (Value × Int)} {todo : Value → Prop} {cnt : Nat} (h : Rg P k e w b r l todo cnt) (hb : w'.heap[b]? = w.heap[b]?) (hr : w'.heap[r]? = w.heap[r]?) : Rg P k e w' b r l todo cnt := by
  obtain ⟨D, left, ⟨es, clock, since, seen, c0, h1, h2, h3, h4, h5, h6⟩, h7⟩ := h
  exact ⟨D, left, ⟨es, clock, since, seen, c0, hb.trans h1, h2, h3, h4, hr.trans h5, h6⟩, h7⟩
theorem Rg.lt {w : World} {b r : Nat} {l : List (Value × Int)} {todo : Value → Prop} {cnt : Nat} (h : Rg P k e w b r l todo cnt) : b < w.heap.size ∧ r < w.heap.size := by
  obtain ⟨D, left, h1, _⟩ := h
  exact ⟨h1.owns.lt, h1.lt⟩
/-- The next one, or the end. -/
theorem Rg.next {w : World} {b r : Nat} {l : List (Value × Int)} {todo : Value → Prop} {cnt : Nat} (h : Rg P k e w b r l todo cnt) (K : Keyed P k) (he : P.underlying e = some (.int .i64)) (hkeys : ∀ p ∈ l, ∃ kl, keyOf P k p.1 = some kl) (ty : TypeId) :
    (cnt = 0 ∧ (∀ p ∈ l, ¬ todo p.1) ∧ (Instr.next (.pointer (some ⟨r, 0, none⟩)) false ty).run P w = .ok (.tuple #[.bool false]) w) ∨
    ∃ p ∈ l, todo p.1 ∧ ∃ w' cnt', (Instr.next (.pointer (some ⟨r, 0, none⟩)) false ty).run P w = .ok (.tuple #[.bool true, p.1, .int .i64 p.2]) w' ∧ Rg P k e w' b r l (fun x => todo x ∧ x ≠ p.1) cnt' ∧ cnt' < cnt ∧ Chg (fun i => i = r) w w' ∧
      (Instr.entry (.pointer (some ⟨r, 0, none⟩))).run P w' = .ok (.tuple #[p.1, .int .i64 p.2]) w' := by
  obtain ⟨D, left, h1, h2⟩ := h
  rcases h1.next K ty with ⟨h3, h4, h5⟩ | ⟨key, v, kl, y, w', cnt', hkey, hleft, hv, hat, hrun, hrg, hlt, hgr, _, hen⟩
  · refine .inl ⟨h3, fun p hp ht => ?_, h5⟩
    obtain ⟨kl, hkl⟩ := hkeys p hp
    have := (h2 p.1 kl hkl).2.2 ht
    rw [h4 kl] at this
    cases this
  · obtain ⟨⟨h6, h7⟩, h8⟩ := h2 key kl hkey
    have hmem := h6.1 (Maps.has_true_of_atKey hat)
    obtain ⟨⟨key', c⟩, hp, rfl⟩ := List.mem_map.1 hmem
    have hy := h7 c hp (.lit (.int .i64 0))
    rw [hat] at hy
    obtain ⟨x, rfl, hx, _⟩ := plainElem_int_inv he hv
    rw [hx] at hy
    simp only [DataW.lit.injEq, Lit.int.injEq, true_and] at hy
    subst hy
    refine .inr ⟨(key', x), hp, h8.1 hleft, w', cnt', hrun, ⟨D, _, hrg, fun key2 kl2 hkl2 => ?_⟩, hlt, grown_chg hgr, hen⟩
    obtain ⟨h9, h10⟩ := h2 key2 kl2 hkl2
    refine ⟨h9, ?_⟩
    rw [Bool.and_eq_true, h10]
    refine and_congr_right fun _ => ?_
    constructor
    · intro hs hk
      subst hk
      have hkk : kl2 = kl := by
        have := hkl2.symm.trans hkey
        exact Option.some.inj this
      subst hkk
      rw [WideAt.sameKey_self (K.key hkey)] at hs
      cases hs
    · intro hne
      cases hs : kl2.sameKey kl with
      | false => rfl
      | true =>
        have hkk := WideAt.sameKey_eq hs
        subst hkk
        exact absurd (K.inj hkl2 hkey) hne
end
end Go.Proofs.Ytipmkddcdnbihaa.MapIs
