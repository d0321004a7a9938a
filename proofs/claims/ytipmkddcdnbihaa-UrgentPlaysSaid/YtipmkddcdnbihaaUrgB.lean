/- Two jobs exchange their places in a queue, walked. -/
import Derived.Test.YtipmkddcdnbihaaUrgA
import Derived.Test.YtipmkddcdnbihaaLexC
import Derived.Test.YtipmkddcdnbihaaFill
import Derived.Shelf.RegionOpenPlain
import Derived.Shelf.SlicesQ.Load
import Derived.BigRegion
namespace Go.Proofs.Ytipmkddcdnbihaa.Urg
open Go.RowKit Base Step MapIs Vec
open UrgP
theorem jobV_one (j : Job) : ∀ v ∈ jobV j, v.oneCell' = true := by
  intro v hv
  simp [jobV] at hv
  rcases hv with rfl | rfl | rfl <;> rfl
theorem add_lit (g o j : Nat) : (⟨g, o, none⟩ : Addr).add j = ⟨g, o + j, none⟩ := Splice.add_zero_ g o j
/-- A job's cells stored into a row's block. -/
theorem store_job {P : Program} {w : World} {g o : Nat} {T : TypeId} {cur : Array Value} (h : w.heap[g]? = some (.cells cur T (0, 0))) (vs : List Value) (hf : o + vs.length ≤ cur.size) (h1 : ∀ v ∈ vs, v.oneCell' = true) :
    ∃ w', (storeCells ⟨g, o, none⟩ vs 0).run P w = .ok () w' ∧ w'.heap[g]? = some (.cells (Splice.putAt cur.toList o vs).toArray T (0, 0)) ∧ Chg (fun i => i = g) w w' := by
  have hst := run_storeCells_at (P := P) g o T vs 0 cur w h (by omega) h1
  have := setRow_heap w g cur (Splice.putAt cur.toList o vs).toArray T (0, 0) h
  exact ⟨_, hst, by simpa [Splice.putAt] using this, Splice.setRow_chg _ _ _⟩
/-- The row behind an exchange. -/
theorem putAt_flat {l : List Job} {i : Nat} (j : Job) (hi : i < l.length) : Splice.putAt (l.flatMap jobV) (i * 3) (jobV j) = (l.set i j).flatMap jobV := by
  induction l generalizing i with
  | nil => cases hi
  | cons a l ih =>
    have h3 : ∀ b : Job, (jobV b).length = 3 := fun _ => rfl
    cases i with
    | zero =>
      unfold Splice.putAt
      simp only [Nat.zero_mul, List.take_zero, List.nil_append, Nat.zero_add, List.set_cons_zero, List.flatMap_cons]
      rw [h3, ← h3 a, List.drop_left]
    | succ i =>
      have := ih (i := i) (by simpa using hi)
      unfold Splice.putAt at this ⊢
      rw [List.set_cons_succ, List.flatMap_cons, List.flatMap_cons, ← this]
      rw [show (i + 1) * 3 = (jobV a).length + i * 3 by rw [h3]; omega, List.take_length_add_append, List.append_assoc, List.append_assoc, List.append_assoc, Nat.add_assoc, List.drop_length_add_append]
theorem set3 (xs : List Value) (o : Nat) (a b c : Value) (h : o + 3 ≤ xs.length) : ((xs.set o a).set (o + 1) b).set (o + 2) c = Splice.putAt xs o [a, b, c] := by
  apply List.ext_getElem?
  intro j
  unfold Splice.putAt
  have hl : (xs.take o).length = o := by rw [List.length_take]; omega
  rw [List.getElem?_set, List.getElem?_set, List.getElem?_set]
  simp only [List.length_set]
  rcases Nat.lt_or_ge j o with h1 | h1
  · rw [if_neg (by omega), if_neg (by omega), if_neg (by omega), List.append_assoc, List.getElem?_append_left (by omega), List.getElem?_take_of_lt h1]
  · rw [List.append_assoc, List.getElem?_append_right (by omega), hl]
    obtain ⟨d, rfl⟩ : ∃ d, j = o + d := ⟨j - o, by omega⟩
    rw [Nat.add_sub_cancel_left]
    rcases d with _ | _ | _ | d
    · rw [if_neg (by omega), if_neg (by omega), if_pos (by omega)]; simp; omega
    · rw [if_neg (by omega), if_pos (by omega)]; simp; omega
    · rw [if_pos (by omega)]; simp; omega
    · rw [if_neg (by omega), if_neg (by omega), if_neg (by omega)]
      simp
      congr 1
      omega
/-- A job stored into its place in the row. -/
theorem own_job {w : World} {S : Nat → Prop} {g n c : Nat} {l : List Job} (h : Own w S 32 3 (.slice (some ⟨g, 0, none⟩) n c) n (l.flatMap jobV)) {i : Nat} (hi : i < l.length) (j : Job) :
    Own (((w.setCell ⟨g, i * 3, none⟩ (.int .u32 j.o)).setCell ⟨g, i * 3 + 1, none⟩ (.int .u16 j.s)).setCell ⟨g, i * 3 + 2, none⟩ (.int .i64 j.g)) S 32 3 (.slice (some ⟨g, 0, none⟩) n c) n ((l.set i j).flatMap jobV) := by
  have h1 := own_setv (own_setv (own_setv h (i * 3) (.int .u32 j.o)) (i * 3 + 1) (.int .u16 j.s)) (i * 3 + 2) (.int .i64 j.g)
  rw [set3 _ _ _ _ _ (by rw [flat_len]; omega)] at h1
  rw [add_lit, add_lit, add_lit, Nat.zero_add, Nat.zero_add, Nat.zero_add] at h1
  have h2 : Splice.putAt (l.flatMap jobV) (i * 3) [.int .u32 j.o, .int .u16 j.s, .int .i64 j.g] = (l.set i j).flatMap jobV := putAt_flat j hi
  rw [h2] at h1
  exact h1
theorem chg3 (w : World) (g a b c : Nat) (x y z : Value) : Chg (fun i => i = g) w (((w.setCell ⟨g, a, none⟩ x).setCell ⟨g, b, none⟩ y).setCell ⟨g, c, none⟩ z) :=
  Chg.setCell (S := fun i => i = g) (Chg.setCell (S := fun i => i = g) (Chg.setCell (S := fun i => i = g) (Chg.refl _ _) (p := ⟨g, a, none⟩) rfl _) (p := ⟨g, b, none⟩) rfl _) (p := ⟨g, c, none⟩) rfl _
theorem ents_swp {l : List Job} {i k : Nat} (hn : (l.map keyV).Nodup) (hi : i < l.length) (hk : k < l.length) :
    (∀ x, x ∈ (ents (swp l i k)).map (·.1) ↔ x ∈ (setK (setK (ents l) (keyV (at_ l k)) i) (keyV (at_ l i)) k).map (·.1)) ∧ (∀ p ∈ ents (swp l i k), p ∈ setK (setK (ents l) (keyV (at_ l k)) i) (keyV (at_ l i)) k) ∧ ((ents (swp l i k)).map (·.1)).Nodup := by
  have hp := (swp_perm hi hk).map keyV
  have inj : ∀ {a b : Nat}, a < l.length → b < l.length → keyV (at_ l a) = keyV (at_ l b) → a = b := fun {a b} ha hb he => by
    have h1 : (l.map keyV)[a]? = some (keyV (at_ l a)) := by rw [List.getElem?_map, at_get ha]; rfl
    have h2 : (l.map keyV)[b]? = some (keyV (at_ l b)) := by rw [List.getElem?_map, at_get hb]; rfl
    rw [he, ← h2] at h1
    exact (List.getElem?_inj (by rw [List.length_map]; exact ha) hn).1 h1
  refine ⟨fun x => ?_, fun p hpm => ?_, ?_⟩
  · rw [setK_keys, setK_keys, ents_keys, ents_keys]
    exact hp.mem_iff
  · obtain ⟨x, j, hx, rfl⟩ := ents_mem.1 hpm
    have hxl : x < l.length := by have := (List.getElem?_eq_some_iff.1 hx).1; rwa [swp_len] at this
    have hj : j = at_ (swp l i k) x := (at_eq hx).symm
    rw [swp_at hi hk hxl] at hj
    have mem : ∀ {a : Nat}, a < l.length → (keyV (at_ l a), (a : Int)) ∈ ents l := fun {a} ha => ents_mem.2 ⟨a, _, at_get ha, rfl⟩
    have memK : ∀ {a : Nat}, a < l.length → keyV (at_ l a) ∈ (ents l).map (·.1) := fun {a} ha => List.mem_map.2 ⟨_, mem ha, rfl⟩
    by_cases h1 : x = k
    · rw [if_pos h1] at hj
      subst h1 hj
      exact setK_hit _ (by rw [setK_keys]; exact memK hi)
    · rw [if_neg h1] at hj
      by_cases h2 : x = i
      · rw [if_pos h2] at hj
        subst h2 hj
        exact setK_other _ (setK_hit _ (memK hk)) fun he => h1 (inj hk hi he).symm
      · rw [if_neg h2] at hj
        subst hj
        exact setK_other _ (setK_other _ (mem hxl) fun he => h1 (inj hxl hk he)) fun he => h2 (inj hxl hi he)
  · rw [ents_keys]
    exact hp.nodup_iff.2 hn
set_option maxRecDepth 100000 in
set_option maxHeartbeats 4000000 in
theorem swap_calls (S : Nat → Prop) (gq gm : Nat) (l : List Job) (i k : Nat) (w : World) (h : QueAt w S gq gm l) (hi : i < l.length) (hk : k < l.length) (hik : i ≠ k) (hlen : l.length ≤ 1099511627776) :
    Calls Try.prog 80 #[.pointer (some ⟨gq, 0, none⟩), .int .i64 i, .int .i64 k] w fun e w' => e = .returned (.tuple #[]) ∧ QueAt w' S gq gm (swp l i k) ∧ Chg S w w' := by
  obtain ⟨A, c, hat, hown⟩ := h.row
  obtain ⟨g, rfl, i0, i1, i2⟩ := row_cell hown (at_get hi)
  obtain ⟨_, e, k0, k1, k2⟩ := row_cell hown (at_get hk)
  cases e
  obtain ⟨_, cur, e, hblk, hnc, hcm, hcs, hcx, hS, hfl⟩ := Splice.blk_own hown
  cases e
  obtain ⟨n, hn⟩ : ∃ n, n = l.length := ⟨_, rfl⟩
  have hb3 : ∀ x, x < n → x * 3 + 3 ≤ cur.size := fun x hx => by rw [hcs]; omega
  have q0 : w.cell? ⟨gq, 0, none⟩ = some (.slice (some ⟨g, 0, none⟩) n c) := by rw [hn]; exact blk_cell (i := 0) hat (Ext.refl _) rfl
  obtain ⟨jo, hjo⟩ : ∃ x, x = at_ l i := ⟨_, rfl⟩
  obtain ⟨ko, hko⟩ : ∃ x, x = at_ l k := ⟨_, rfl⟩
  rw [← hjo] at i0 i1 i2
  rw [← hko] at k0 k1 k2
  have fi0 : w.frozen? ⟨g, i * 3, none⟩ = false := Pack.free_of hblk _
  have fi1 : w.frozen? ⟨g, i * 3 + 1, none⟩ = false := Pack.free_of hblk _
  have fi2 : w.frozen? ⟨g, i * 3 + 2, none⟩ = false := Pack.free_of hblk _
  have fk0 : w.frozen? ⟨g, k * 3, none⟩ = false := Pack.free_of hblk _
  have fk1 : w.frozen? ⟨g, k * 3 + 1, none⟩ = false := Pack.free_of hblk _
  have fk2 : w.frozen? ⟨g, k * 3 + 2, none⟩ = false := Pack.free_of hblk _
  have n1 : ¬ k * 3 = i * 3 := by omega
  have n2 : ¬ k * 3 = i * 3 + 1 := by omega
  have n3 : ¬ k * 3 = i * 3 + 2 := by omega
  have n4 : ¬ k * 3 + 1 = i * 3 := by omega
  have n6 : ¬ k * 3 + 1 = i * 3 + 2 := by omega
  have n7 : ¬ k * 3 + 2 = i * 3 := by omega
  have n8 : ¬ k * 3 + 2 = i * 3 + 1 := by omega
  have m1 : ¬ i * 3 = k * 3 := by omega
  have m2 : ¬ i * 3 + 1 = k * 3 := by omega
  have m3 : ¬ i * 3 + 2 = k * 3 := by omega
  have m4 : ¬ i * 3 = k * 3 + 1 := by omega
  have m6 : ¬ i * 3 + 2 = k * 3 + 1 := by omega
  have m7 : ¬ i * 3 = k * 3 + 2 := by omega
  have m8 : ¬ i * 3 + 1 = k * 3 + 2 := by omega
  have HI : (i : Int) < n := by omega
  have HK : (k : Int) < n := by omega
  have H := Lib.hid h
  have HAT := Lib.hid hat
  have HOWN := Lib.hid hown
  have HJ := Lib.hid (And.intro hjo hko)
  clear h hat hown hjo hko
  go_enter Try.func80, Try.ntmps80
  go_wp2_with fail
  have hmixed : Try.prog.follows .mixedOrders = true := by kernel_rfl
  go_big_region_o
  have hoA := own_job HOWN.out hi ko
  have hoB := own_job hoA (i := k) (by simpa using hk) jo
  have hcA := (chg3 w g (i * 3) (i * 3 + 1) (i * 3 + 2) (.int .u32 ko.o) (.int .u16 ko.s) (.int .i64 ko.g)).trans (chg3 _ g (k * 3) (k * 3 + 1) (k * 3 + 2) (.int .u32 jo.o) (.int .u16 jo.s) (.int .i64 jo.g))
  have hoC := hoB.extNew (drew_ext (Ext.refl _))
  have hcC := hcA.trans (Below.chg (drew_ext (Ext.refl _)))
  clear hoA hoB hcA
  have hsw : (l.set i ko).set k jo = swp l i k := by unfold swp; rw [HJ.out.1, HJ.out.2]
  rw [hsw] at hoC
  clear hsw i0 i1 i2 k0 k1 k2 fi0 fi1 fi2 fk0 fk1 fk2 n1 n2 n3 n4 n6 n7 n8 m1 m2 m3 m4 m6 m7 m8 q0
  generalize World.drew _ = wb at *
  have hgm := Mp.ne_at H.out.mp HAT.out
  have hgg : g ≠ gm := fun e => Mp.ne_own H.out.mp HOWN.out (by rw [e]; rfl)
  have hgq : gq ≠ g := fun e => HOWN.out.ne HAT.out (by decide) (by rw [e]; rfl)
  have hat2 := hcC.at_ HAT.out (by intro k; exact hgq k)
  have hmp2 := H.out.mp.chg hcC (by intro k; exact hgg k.symm)
  have hll : (ents l).length < maxLen := by rw [ents_len]; simp only [maxLen]; omega
  have memK : ∀ {a : Nat}, a < l.length → keyV (at_ l a) ∈ (ents l).map (·.1) := fun {a} ha => List.mem_map.2 ⟨_, ents_mem.2 ⟨a, _, at_get ha, rfl⟩, rfl⟩
  have wfi : ∀ a : Nat, a < l.length → (Lit.int .i64 (a : Int)).wf = true := fun a ha => by simp [Lit.wf, IntKind.min, IntKind.max, IntKind.bits, IntKind.signed]; omega
  obtain ⟨v1, st1, x1, y1⟩ := hmp2.entry key_keyed Try.underlying51 Try.underlying3 int_zero hll (memK hk)
  obtain ⟨W3, hmp3, hc3, y1⟩ := y1 i (wfi i hi)
  obtain ⟨v2, st2, x2, y2⟩ := hmp3.entry key_keyed Try.underlying51 Try.underlying3 int_zero (by rw [setK_len]; exact hll) (key := keyV (at_ l i)) (by rw [setK_keys]; exact memK hi)
  obtain ⟨W4, hmp4, hc4, y2⟩ := y2 k (wfi k hk)
  rw [← HJ.out.1] at x2 hmp4
  rw [← HJ.out.2] at x1 hmp4
  have X1 := Lib.hid x1
  have X2 := Lib.hid x2
  have Y1 := Lib.hid y1
  have Y2 := Lib.hid y2
  have a1 : at_ (swp l i k) i = ko := by rw [swp_at hi hk hi, if_neg hik, if_pos rfl, HJ.out.2]
  have a2 : at_ (swp l i k) k = jo := by rw [swp_at hi hk hk, if_pos rfl, HJ.out.1]
  obtain ⟨_, e, i0, i1, i2⟩ := row_cell hoC (at_get (l := swp l i k) (i := i) (by rw [swp_len]; exact hi))
  cases e
  obtain ⟨_, e, k0, k1, k2⟩ := row_cell hoC (at_get (l := swp l i k) (i := k) (by rw [swp_len]; exact hk))
  cases e
  rw [a1] at i0 i1 i2
  rw [a2] at k0 k1 k2
  have q0 : ∀ W, Chg (fun j => j = gm) wb.drew W → W.cell? ⟨gq, 0, none⟩ = some (.slice (some ⟨g, 0, none⟩) l.length c) := fun W hW => hW.cell (a := ⟨gq, 0, none⟩) (blk_cell (i := 0) hat2 (drew_ext (Ext.refl wb.drew)) rfl) hgm
  have q1 : ∀ W, Chg (fun j => j = gm) wb.drew W → W.cell? ⟨gq, 1, none⟩ = some (.map (some gm)) := fun W hW => hW.cell (a := ⟨gq, 1, none⟩) (blk_cell (i := 1) hat2 (drew_ext (Ext.refl wb.drew)) rfl) hgm
  replace i0 : ∀ W, Chg (fun j => j = gm) wb.drew W → W.cell? ⟨g, i * 3, none⟩ = some (.int .u32 ko.o) := fun W hW => hW.cell (a := ⟨g, i * 3, none⟩) i0 hgg
  replace i1 : ∀ W, Chg (fun j => j = gm) wb.drew W → W.cell? ⟨g, i * 3 + 1, none⟩ = some (.int .u16 ko.s) := fun W hW => hW.cell (a := ⟨g, i * 3 + 1, none⟩) i1 hgg
  replace k0 : ∀ W, Chg (fun j => j = gm) wb.drew W → W.cell? ⟨g, k * 3, none⟩ = some (.int .u32 jo.o) := fun W hW => hW.cell (a := ⟨g, k * 3, none⟩) k0 hgg
  replace k1 : ∀ W, Chg (fun j => j = gm) wb.drew W → W.cell? ⟨g, k * 3 + 1, none⟩ = some (.int .u16 jo.s) := fun W hW => hW.cell (a := ⟨g, k * 3 + 1, none⟩) k1 hgg
  have HOC := Lib.hid hoC
  have HCC := Lib.hid hcC
  have HAT2 := Lib.hid hat2
  have HM := Lib.hid (And.intro hmp4 (hc3.trans hc4))
  have HGG := Lib.hid (And.intro hgm hgg)
  clear hmp2 hmp3 hmp4 hc3 hc4 hoC hcC hat2 hgm hgg hgq hll memK wfi i2 k2 a1 a2 x1 x2 y1 y2
  go_wp2_with fail
  refine Lex.wp_region_c [0, 1, 2, 3, 4, 5, 6, 7, 8, 9, 10, 11, 12, 13, 14, 15, 16, 17, 18, 19, 20, 21, 22, 23, 24, 25, 26, 27, 28, 29, 30, 31] [] (fun j => j = gm) [26, 28, 29, 31] (fun j => match j with | 26 => .tuple #[v1, .int .i64 st1] | 29 => .tuple #[v2, .int .i64 st2] | _ => undef) (fun m W => match m with | 0 => W.heap[gm]? = wb.heap[gm]? | 1 => W.heap[gm]? = wb.heap[gm]? | 2 => W.heap[gm]? = W3.heap[gm]? | 3 => W.heap[gm]? = W3.heap[gm]? | _ => W.heap[gm]? = W4.heap[gm]?) (by kernel_rfl) (by kernel_rfl) rfl ?_; simp only [Lex.pick, List.getElem?_cons_succ, List.getElem?_cons_zero, List.map_cons, List.map_nil]
  repeat (first | (refine Lex.lexC_skip (by rfl) (by rfl) ?_; simp only [Act.put, List.setIfInBounds_toArray, List.set_cons_zero, List.set_cons_succ]) | (refine Lex.lexC_still (by rfl) (by rfl) (by rfl) (fun _ => rfl) ?_; apply Exists.intro; refine ⟨fun W hW => ?_, ?_⟩; (have hE := hW.1; clear hW; go_simp; with_reducible rfl); simp only [Act.put, List.setIfInBounds_toArray, List.set_cons_zero, List.set_cons_succ]))
  refine Lex.lexC_chain (by rfl) (by rfl) (fun W hW hI => ?_) ?_
  · have h1 := X1.out W hI
    clear hW
    go_simp
    exact ⟨rfl, Chg.refl _ _, hI⟩
  simp only [Act.put, List.setIfInBounds_toArray, List.set_cons_zero, List.set_cons_succ]
  repeat (first | (refine Lex.lexC_skip (by rfl) (by rfl) ?_; simp only [Act.put, List.setIfInBounds_toArray, List.set_cons_zero, List.set_cons_succ]) | (refine Lex.lexC_still (by rfl) (by rfl) (by rfl) (fun _ => rfl) ?_; apply Exists.intro; refine ⟨fun W hW => ?_, ?_⟩; (have hE := hW.1; clear hW; go_simp; with_reducible rfl); simp only [Act.put, List.setIfInBounds_toArray, List.set_cons_zero, List.set_cons_succ]))
  refine Lex.lexC_chain (by rfl) (by rfl) (fun W hW hI => ?_) ?_
  · obtain ⟨W', h1, h2, h3⟩ := Y1.out W hI
    clear hW
    go_simp
    exact ⟨rfl, h3, h2⟩
  simp only [Act.put, List.setIfInBounds_toArray, List.set_cons_zero, List.set_cons_succ]
  repeat (first | (refine Lex.lexC_skip (by rfl) (by rfl) ?_; simp only [Act.put, List.setIfInBounds_toArray, List.set_cons_zero, List.set_cons_succ]) | (refine Lex.lexC_still (by rfl) (by rfl) (by rfl) (fun _ => rfl) ?_; apply Exists.intro; refine ⟨fun W hW => ?_, ?_⟩; (have hE := hW.1; clear hW; go_simp; with_reducible rfl); simp only [Act.put, List.setIfInBounds_toArray, List.set_cons_zero, List.set_cons_succ]))
  refine Lex.lexC_chain (by rfl) (by rfl) (fun W hW hI => ?_) ?_
  · have h1 := X2.out W hI
    clear hW
    go_simp
    exact ⟨rfl, Chg.refl _ _, hI⟩
  simp only [Act.put, List.setIfInBounds_toArray, List.set_cons_zero, List.set_cons_succ]
  repeat (first | (refine Lex.lexC_skip (by rfl) (by rfl) ?_; simp only [Act.put, List.setIfInBounds_toArray, List.set_cons_zero, List.set_cons_succ]) | (refine Lex.lexC_still (by rfl) (by rfl) (by rfl) (fun _ => rfl) ?_; apply Exists.intro; refine ⟨fun W hW => ?_, ?_⟩; (have hE := hW.1; clear hW; go_simp; with_reducible rfl); simp only [Act.put, List.setIfInBounds_toArray, List.set_cons_zero, List.set_cons_succ]))
  refine Lex.lexC_chain (by rfl) (by rfl) (fun W hW hI => ?_) ?_
  · obtain ⟨W', h1, h2, h3⟩ := Y2.out W hI
    clear hW
    go_simp
    exact ⟨rfl, h3, h2⟩
  simp only [Act.put, List.setIfInBounds_toArray, List.set_cons_zero, List.set_cons_succ]
  repeat (first | (refine Lex.lexC_skip (by rfl) (by rfl) ?_; simp only [Act.put, List.setIfInBounds_toArray, List.set_cons_zero, List.set_cons_succ]) | (refine Lex.lexC_still (by rfl) (by rfl) (by rfl) (fun _ => rfl) ?_; apply Exists.intro; refine ⟨fun W hW => ?_, ?_⟩; (have hE := hW.1; clear hW; go_simp; with_reducible rfl); simp only [Act.put, List.setIfInBounds_toArray, List.set_cons_zero, List.set_cons_succ]))
  refine Lex.lexC_nil (fun W hW hI => ?_)
  have hE := hW.1
  have HI : W.heap[gm]? = W4.heap[gm]? := hI
  clear hW hI
  have HE := Lib.hid hE
  have HH := Lib.hid HI
  clear hE HI q0 q1 i0 i1 k0 k1
  refine Lex.onlyN_intro ?_
  go_wp2_with fail
  go_end0
  have hc5 : Chg (fun j => j = gm) wb W := Chg.trans (Below.chg (drew_ext (Ext.refl wb.drew))) HE.out
  have hmpW : Mp Try.prog 30 3 W gm _ := HM.out.1.kept HH.out
  obtain ⟨p1, p2, p3⟩ := ents_swp H.out.nodup hi hk
  rw [HJ.out.1, HJ.out.2] at hmpW
  have hperm := swp_perm hi hk
  refine ⟨rfl, ⟨⟨some ⟨g, 0, none⟩, c, ?_, ?_⟩, hmpW.congr (by rw [setK_len, setK_len, ents_len, ents_len, swp_len]) p1 p2 p3, fun j hj => H.out.ok j (hperm.mem_iff.1 hj), H.out.sq, H.out.sm, fun q hq => ?_⟩, ?_⟩
  · rw [swp_len]
    exact hc5.at_ HAT2.out HGG.out.1
  · rw [swp_len]
    exact HOC.out.keep fun q hq => by
      cases hq
      exact hc5.block g (by obtain ⟨_, _, h1, h2, _⟩ := Splice.blk_own HOC.out; cases h1; exact Pack.lt_of_at h2) HGG.out.2
  · exact Nat.lt_of_lt_of_le (H.out.lt q hq) (Nat.le_trans HCC.out.size hc5.size)
  · exact (HCC.out.mono fun q _ hq => by cases hq; exact hS).trans (hc5.mono fun q _ hq => by cases hq; exact H.out.sm)
end Go.Proofs.Ytipmkddcdnbihaa.Urg
