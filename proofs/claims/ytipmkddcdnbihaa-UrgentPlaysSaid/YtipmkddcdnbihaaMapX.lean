/- A map of whole numbers by its entries: a key's new number; a key taken away; the entries in another order. No program in sight. -/
import Derived.Test.YtipmkddcdnbihaaMapW
import Derived.WideKeyEntry
namespace Go.Proofs.Ytipmkddcdnbihaa.MapIs
open Go.RowKit Base Step Go.Maps
section
variable {P : Program} {k e : TypeId}
theorem tight {R : Value → Option (DataW Unit × List MemPlace)} {w : World} {b n : Nat} {D : DataW Unit} (h : w.ownsMap P k R b n D) : w.ownsMap P k R b (Maps.size D) D := by
  obtain ⟨es, clock, hb, F, hs, rfl⟩ := h
  exact ⟨es, clock, hb, F, by simp [Maps.size, length_sorted], rfl⟩
/-- The same entries, in whatever order. -/
theorem Mp.congr {w : World} {b : Nat} {l l' : List (Value × Int)} (h : Mp P k e w b l) (hlen : l'.length = l.length) (hk : ∀ x, x ∈ l'.map (·.1) ↔ x ∈ l.map (·.1)) (hm : ∀ p ∈ l', p ∈ l) (hn : (l'.map (·.1)).Nodup) : Mp P k e w b l' := by
  obtain ⟨D, h1, h2, h3⟩ := h.own
  exact ⟨⟨D, by rw [hlen]; exact h1, by rw [hlen]; exact h2, fun key kl hkl => ⟨(h3 key kl hkl).1.trans (hk key).symm, fun c hc => (h3 key kl hkl).2 c (hm _ hc)⟩⟩, fun p hp => h.keys p (hm p hp), hn⟩
open Classical in
noncomputable def setK (l : List (Value × Int)) (key : Value) (c : Int) : List (Value × Int) := l.map fun p => if p.1 = key then (key, c) else p
open Classical in
theorem setK_keys (l : List (Value × Int)) (key : Value) (c : Int) : (setK l key c).map (·.1) = l.map (·.1) := by
  unfold setK
  rw [List.map_map]
  refine List.map_congr_left fun p _ => ?_
  show (if p.1 = key then (key, c) else p).1 = p.1
  split
  · rename_i h; exact h.symm
  · rfl
theorem setK_len (l : List (Value × Int)) (key : Value) (c : Int) : (setK l key c).length = l.length := by simp [setK]
open Classical in
theorem setK_hit {l : List (Value × Int)} {key : Value} (c : Int) (h : key ∈ l.map (·.1)) : (key, c) ∈ setK l key c := by
  obtain ⟨p, hp, rfl⟩ := List.mem_map.1 h
  exact List.mem_map.2 ⟨p, hp, by simp⟩
open Classical in
theorem setK_other {l : List (Value × Int)} {key : Value} (c : Int) {p : Value × Int} (h : p ∈ l) (hp : p.1 ≠ key) : p ∈ setK l key c := List.mem_map.2 ⟨p, h, by simp [hp]⟩
/-- A key that is there gets another number. -/
theorem Mp.set {t : TypeId} {w : World} {b : Nat} {l : List (Value × Int)} (h : Mp P k e w b l) (K : Keyed P k) (ht : P.underlying t = some (.map k e)) (he : P.underlying e = some (.int .i64)) (hl : l.length < maxLen) {key : Value} (hm : key ∈ l.map (·.1)) {c : Int} (hc : (Lit.int .i64 c).wf = true) :
    ∃ w', (Instr.mapUpdate t (.map (some b)) key (.int .i64 c)).run P w = .ok () w' ∧ Mp P k e w' b (setK l key c) ∧ Chg (fun i => i = b) w w' := by
  classical
  obtain ⟨D, h1, h2, h3⟩ := h.own
  obtain ⟨p0, hp0, rfl⟩ := List.mem_map.1 hm
  obtain ⟨⟨kl, hkl⟩, _⟩ := h.keys p0 hp0
  obtain ⟨h4, _⟩ := h3 p0.1 kl hkl
  have hhas : Maps.has D kl = true := h4.2 hm
  obtain ⟨w', hrun, h5, h6⟩ := h1.update K ht hl hkl (plainElem_int he hc)
  have hkey := K.key hkl
  have hsz : Maps.size (D.put kl (.lit (.int .i64 c))) = l.length := by
    rw [Maps.size_put (h1.tidy K), hhas, h2]
    simp
  refine ⟨w', hrun, ⟨⟨_, by have := tight h5; rw [hsz] at this; rw [setK_len]; exact this, by rw [setK_len]; exact hsz, fun key' kl' hkl' => ?_⟩, ?_, by rw [setK_keys]; exact h.nodup⟩, ⟨h6.os, h6.tape, h6.output, h6.size, fun i hi hn => h6.block i hi fun e => hn (Option.some.inj e)⟩⟩
  · rw [setK_keys]
    by_cases hne : kl' = kl
    · subst hne
      have hkk : key' = p0.1 := K.inj hkl' hkl
      subst hkk
      refine ⟨?_, fun c' hc' z => ?_⟩
      · rw [Maps.has_put_same h1.isMap hkey]
        simp only [hm]
      · rw [Maps.atKey_put_same h1.isMap hkey]
        obtain ⟨q, hq, he'⟩ := List.mem_map.1 hc'
        by_cases hqk : q.1 = p0.1
        · rw [if_pos hqk] at he'
          cases he'
          rfl
        · rw [if_neg hqk] at he'
          subst he'
          exact absurd rfl hqk
    · obtain ⟨h7, h8⟩ := h3 key' kl' hkl'
      have hkk : key' ≠ p0.1 := fun h => by
        subst h
        rw [hkl] at hkl'
        exact hne (Option.some.inj hkl').symm
      refine ⟨?_, fun c' hc' z => ?_⟩
      · rw [Maps.has_put_other hne, h7]
      · rw [Maps.atKey_put_other hne]
        obtain ⟨q, hq, he'⟩ := List.mem_map.1 hc'
        by_cases hqk : q.1 = p0.1
        · rw [if_pos hqk] at he'
          cases he'
          exact absurd rfl hkk
        · rw [if_neg hqk] at he'
          subst he'
          exact h8 _ hq z
  · intro p hp
    obtain ⟨q, hq, he'⟩ := List.mem_map.1 hp
    by_cases hqk : q.1 = p0.1
    · rw [if_pos hqk] at he'
      subst he'
      exact ⟨⟨kl, hkl⟩, hc⟩
    · rw [if_neg hqk] at he'
      subst he'
      exact h.keys q hq
open Go.ChangeMaps in
theorem setBlock_same {w : World} {b : Nat} {o : Obj} (h : w.heap[b]? = some o) : setBlock w b o = w := by
  have hb : b < w.heap.size := (Array.getElem?_eq_some_iff.1 h).1
  have : w.heap.setIfInBounds b o = w.heap := by
    apply Array.ext_getElem?
    intro i
    by_cases hi : b = i
    · subst hi
      rw [Array.getElem?_setIfInBounds_self_of_lt hb, h]
    · rw [Array.getElem?_setIfInBounds_ne hi]
  unfold setBlock
  rw [this]
open Go.WideElems Go.ChangeMaps in
/-- A key that is there: its entry is found, and stored into. -/
theorem Mp.entry {t : TypeId} {w : World} {b : Nat} {l : List (Value × Int)} (h : Mp P k e w b l) (K : Keyed P k) (ht : P.underlying t = some (.map k e)) (he : P.underlying e = some (.int .i64)) (hz : ∀ u, (zeroValue e).run P u = .ok (.int .i64 0) u) (hl : l.length < maxLen) {key : Value} (hm : key ∈ l.map (·.1)) :
    ∃ (v0 : Value) (st : Int), (∀ W : World, W.heap[b]? = w.heap[b]? → (Instr.mapEntry t (.map (some b)) key).run P W = .ok (.tuple #[v0, .int .i64 st]) W) ∧ ∀ c, (Lit.int .i64 c).wf = true → ∃ w', Mp P k e w' b (setK l key c) ∧ Chg (fun i => i = b) w w' ∧
      ∀ W : World, W.heap[b]? = w.heap[b]? → ∃ W', (Instr.entryStore t (.map (some b)) (.int .i64 st) (.int .i64 c)).run P W = .ok () W' ∧ W'.heap[b]? = w'.heap[b]? ∧ Chg (fun i => i = b) W W' := by
  obtain ⟨D, h1, h2, h3⟩ := h.own
  obtain ⟨p0, hp0, rfl⟩ := List.mem_map.1 hm
  obtain ⟨⟨kl, hkl⟩, _⟩ := h.keys p0 hp0
  have hhas : Maps.has D kl = true := (h3 p0.1 kl hkl).1.2 hm
  obtain ⟨es, clock, hb, F, hs, hD⟩ := h1
  obtain ⟨s1, s2, s3⟩ := F.stamped
  rcases K.find w hkl es.toList F.keys with ⟨k1, k2⟩ | ⟨j, e0, k1, k2, k3⟩
  · exfalso
    subst hD
    rcases Maps.fit_look true K ht (hz w) hb F hkl with ⟨_, _, hat⟩ | ⟨e0, _, he0, hk0, _⟩
    · rw [Maps.has_false_of_atKey hat] at hhas
      cases hhas
    · exact k2 e0 he0 hk0
  · have hj : es[j]? = some e0 := by simpa using k2
    have hsame : es.modify j (fun e => { e with key := p0.1 }) = es := by
      apply Array.ext'
      rw [Array.toList_modify, modify_eq_set _ _ _ _ k2]
      have : ({ e0 with key := p0.1 } : MapEntry) = e0 := by rw [← k3]
      rw [this]
      exact set_self _ _ _ k2
    refine ⟨e0.val, e0.born, fun W hW => ?_, fun c hc => ?_⟩
    · have hbW := hW.trans hb
      have := setBlock_same hbW
      obtain ⟨_, hkW⟩ : ∃ x : Unit, (Instr.findKey k p0.1 es.toList).run P W = .ok (some (j, e0.val)) W := by
        rcases K.find W hkl es.toList F.keys with ⟨m1, m2⟩ | ⟨j', e1, m1, m2, m3⟩
        · exact absurd k3 (m2 e0 (List.mem_of_getElem? k2))
        · refine ⟨(), ?_⟩
          have hj' : j' = j := by
            have d1 : (es.toList.map (·.key))[j']? = some p0.1 := by rw [List.getElem?_map, m2]; simp [m3]
            have d2 : (es.toList.map (·.key))[j]? = some p0.1 := by rw [List.getElem?_map, k2]; simp [k3]
            rw [← d2] at d1
            exact (List.getElem?_inj (by rw [List.length_map]; exact (List.getElem?_eq_some_iff.1 m2).1) s3).1 d1
          subst hj'
          rw [m2] at k2
          cases k2
          exact m1
      simp [Instr.mapEntry, run_underlying ht, MapKept.run_getObj_map hbW, K.check W false hkl, hkW, hj, k3, K.stays W hkl, hsame, MapKept.run_setObj_map _ hbW, Result.andThen, goInt]
      exact this
    · obtain ⟨w', hrun, hmp, hch⟩ := h.set K ht he hl hm hc
      have hidx : es.findIdx? (fun e => ((e.born : Nat) : Int) == ((e0.born : Nat) : Int)) = some j := by
        rw [findIdx_arr]
        exact findIdx_born s2 k2
      have hmod : es.modify j (fun e => { e with val := .int .i64 c }) = es.modify j (fun e' => { e' with key := p0.1, val := .int .i64 c }) := by
        apply Array.ext'
        rw [Array.toList_modify, Array.toList_modify, modify_eq_set _ _ _ _ k2, modify_eq_set _ _ _ _ k2, ← k3]
      have e2 : (Instr.mapUpdate t (.map (some b)) p0.1 (.int .i64 c)).run P w = .ok () (setBlock w b (.map (es.modify j (fun e' => { e' with key := p0.1, val := .int .i64 c })) clock)) := by
        simp [Instr.mapUpdate, run_underlying ht, MapKept.run_getObj_map hb, K.check w false hkl, k1, hj, k3, K.stays w hkl, MapKept.run_setObj_map _ hb, Result.andThen, setBlock]
      rw [e2] at hrun
      cases hrun
      refine ⟨_, hmp, hch, fun W hW => ?_⟩
      have hbW := hW.trans hb
      have e1 : (Instr.entryStore t (.map (some b)) (.int .i64 (e0.born : Int)) (.int .i64 c)).run P W = .ok () (setBlock W b (.map (es.modify j (fun e' => { e' with key := p0.1, val := .int .i64 c })) clock)) := by
        simp [Instr.entryStore, MapKept.run_getObj_map hbW, asInt, asIntOf, hidx, hmod, MapKept.run_setObj_map _ hbW, Result.andThen, setBlock]
      refine ⟨_, e1, ?_, ⟨rfl, rfl, rfl, by simp [setBlock], fun i _ hi => heap_setBlock_other hbW _ hi⟩⟩
      rw [heap_setBlock_same hbW, heap_setBlock_same hb]
open Classical in
noncomputable def delK (l : List (Value × Int)) (key : Value) : List (Value × Int) := l.filter fun p => decide (p.1 ≠ key)
theorem delK_mem {l : List (Value × Int)} {key : Value} {p : Value × Int} : p ∈ delK l key ↔ p ∈ l ∧ p.1 ≠ key := by
  classical
  unfold delK
  rw [List.mem_filter, decide_eq_true_eq]
theorem delK_keys {l : List (Value × Int)} {key x : Value} : x ∈ (delK l key).map (·.1) ↔ x ∈ l.map (·.1) ∧ x ≠ key := by
  constructor
  · intro h
    obtain ⟨p, hp, rfl⟩ := List.mem_map.1 h
    obtain ⟨h1, h2⟩ := delK_mem.1 hp
    exact ⟨List.mem_map.2 ⟨p, h1, rfl⟩, h2⟩
  · rintro ⟨h, h2⟩
    obtain ⟨p, hp, rfl⟩ := List.mem_map.1 h
    exact List.mem_map.2 ⟨p, delK_mem.2 ⟨hp, h2⟩, rfl⟩
theorem delK_len : ∀ {l : List (Value × Int)} {key : Value}, (l.map (·.1)).Nodup → key ∈ l.map (·.1) → (delK l key).length + 1 = l.length
  | [], _, _, h => by simp at h
  | p :: l, key, hn, h => by
    classical
    rw [List.map_cons, List.nodup_cons] at hn
    by_cases hp : p.1 = key
    · subst hp
      have : delK (p :: l) p.1 = l := by
        unfold delK
        rw [List.filter_cons_of_neg (by simp), List.filter_eq_self]
        intro q hq
        rw [decide_eq_true_eq]
        exact fun k => hn.1 (k ▸ List.mem_map.2 ⟨q, hq, rfl⟩)
      rw [this, List.length_cons]
    · have : delK (p :: l) key = p :: delK l key := by
        unfold delK
        rw [List.filter_cons_of_pos (by simpa using hp)]
      rw [this, List.length_cons, List.length_cons, delK_len hn.2 (by simpa [Ne.symm hp] using h)]
theorem delK_nodup {l : List (Value × Int)} (key : Value) (h : (l.map (·.1)).Nodup) : ((delK l key).map (·.1)).Nodup := h.sublist (List.Sublist.map _ List.filter_sublist)
/-- A key taken away. -/
theorem Mp.del {t : TypeId} {w : World} {b : Nat} {l : List (Value × Int)} (h : Mp P k e w b l) (K : Keyed P k) (ht : P.underlying t = some (.map k e)) {key : Value} (hm : key ∈ l.map (·.1)) (ty : TypeId) :
    ∃ w', (Builtin.delete_ #[t, k] ty #[.map (some b), key]).run P w = .ok (.tuple #[]) w' ∧ Mp P k e w' b (delK l key) ∧ Chg (fun i => i = b) w w' := by
  obtain ⟨D, h1, h2, h3⟩ := h.own
  obtain ⟨p0, hp0, rfl⟩ := List.mem_map.1 hm
  obtain ⟨⟨kl, hkl⟩, _⟩ := h.keys p0 hp0
  have hhas : Maps.has D kl = true := (h3 p0.1 kl hkl).1.2 hm
  obtain ⟨w', hrun, h5, h6⟩ := h1.drop K ht hkl ty
  have hg := h6.grown
  have hsz : Maps.size (D.del kl) = (delK l p0.1).length := by
    have k1 := Maps.size_del (k := kl) (h1.tidy K)
    have k2 := delK_len h.nodup hm
    rw [hhas, h2] at k1
    simp at k1
    omega
  refine ⟨w', hrun, ⟨⟨_, by have := tight h5; rw [hsz] at this; exact this, hsz, fun key' kl' hkl' => ?_⟩, fun p hp => h.keys p (delK_mem.1 hp).1, delK_nodup _ h.nodup⟩, ⟨hg.os, hg.tape, hg.output, hg.size, fun i hi hn => hg.block i hi fun e => hn (Option.some.inj e)⟩⟩
  by_cases hne : kl' = kl
  · subst hne
    have hkk : key' = p0.1 := K.inj hkl' hkl
    subst hkk
    refine ⟨?_, fun c' hc' z => absurd rfl (delK_mem.1 hc').2⟩
    rw [Maps.has_del_same, delK_keys]
    simp
  · obtain ⟨h7, h8⟩ := h3 key' kl' hkl'
    have hkk : key' ≠ p0.1 := fun h => by
      subst h
      rw [hkl] at hkl'
      exact hne (Option.some.inj hkl').symm
    refine ⟨?_, fun c' hc' z => ?_⟩
    · rw [Maps.has_del_other hne, h7, delK_keys]
      simp [hkk]
    · rw [Maps.atKey_del_other hne]
      exact h8 c' (delK_mem.1 hc').1 z
end
end Go.Proofs.Ytipmkddcdnbihaa.MapIs
