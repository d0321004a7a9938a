/- The first cell in which no shard is, walked. -/
import Derived.Test.YtipmkddcdnbihaaVaultG
import Derived.Test.YtipmkddcdnbihaaMapW
import Derived.Deep.LoopGhost
namespace Go.Proofs.Ytipmkddcdnbihaa.Vault
open Go.RowKit Base Step MapIs
open VaultP (Sh shOf nameB cellOf readV Whole)
theorem info_bool : (Try.prog.info? 4).map (fun i => (i.zero, i.size, i.bytes)) = some (some (.bool false), 1, 1) := by kernel_rfl
/-- A row of bools in block g. -/
def Bools (w : World) (g n : Nat) (f : Nat → Bool) : Prop := ∃ C : Array Value, w.heap[g]? = some (.cells C 4 (0, 0)) ∧ C.size = n ∧ ∀ j, j < n → C[j]? = some (.bool (f j))
theorem Bools.cell {w : World} {g n : Nat} {f : Nat → Bool} (h : Bools w g n f) {j : Nat} (hj : j < n) : w.cell? ⟨g, j, none⟩ = some (.bool (f j)) := by
  obtain ⟨C, h1, h2, h3⟩ := h
  exact blk_cell h1 (Ext.refl _) (h3 j hj)
theorem Bools.free {w : World} {g n : Nat} {f : Nat → Bool} (h : Bools w g n f) (j : Nat) : w.frozen? ⟨g, j, none⟩ = false := by
  obtain ⟨C, h1, _⟩ := h
  exact Pack.free_of h1 j
theorem Bools.set {w : World} {g n : Nat} {f : Nat → Bool} (h : Bools w g n f) {j : Nat} (hj : j < n) : Bools (w.setCell ⟨g, j, none⟩ (.bool true)) g n (fun i => if i = j then true else f i) := by
  obtain ⟨C, h1, h2, h3⟩ := h
  refine ⟨_, set_blk h1 _, by simpa using h2, fun i hi => ?_⟩
  by_cases hij : i = j
  · subst hij
    simp [h2, hi]
  · rw [Array.getElem?_setIfInBounds_ne (Ne.symm hij), h3 i hi]
    simp only [hij, if_false]
theorem Bools.chg {S : Nat → Prop} {w w' : World} {g n : Nat} {f : Nat → Bool} (h : Bools w g n f) (hc : Chg S w w') (hs : ¬ S g) : Bools w' g n f := by
  obtain ⟨C, h1, h2⟩ := h
  exact ⟨C, hc.at_ h1 hs, h2⟩
theorem bools_made (w : World) (n : Nat) : Bools (w.alloc (.cells (madeCells #[.bool false] n) 4)) w.heap.size n (fun _ => false) := by
  refine ⟨_, at_new _ _, ?_, fun j hj => ?_⟩
  · simp [madeCells]
  · simp [madeCells, hj, Nat.mod_one]
theorem nodup_fun {α β : Type} : ∀ {l : List (α × β)} {a : α} {b c : β}, (l.map (·.1)).Nodup → (a, b) ∈ l → (a, c) ∈ l → b = c
  | [], _, _, _, _, h, _ => by cases h
  | p :: l, a, b, c, hn, h1, h2 => by
    simp only [List.map_cons, List.nodup_cons, List.mem_map] at hn
    rcases List.mem_cons.1 h1 with rfl | k1 <;> rcases List.mem_cons.1 h2 with h2 | k2
    · exact (Prod.mk.inj h2).2.symm
    · exact absurd ⟨_, k2, rfl⟩ hn.1
    · subst h2
      exact absurd ⟨_, k1, rfl⟩ hn.1
    · exact nodup_fun hn.2 k1 k2
/-- The walk over a vault's cells: what has come is marked. -/
structure Marks (w : World) (gm r g n : Nat) (l : List (Sh × Nat)) (cnt : Nat) (w0 wr : World) : Prop where
  rg : ∃ (todo : Value → Prop) (f : Nat → Bool), Rg Try.prog 111 3 wr gm r (ents l) todo cnt ∧ Bools wr g n f ∧ ∀ j, j < n → (f j = true ↔ ∃ p ∈ l, p.2 = j ∧ ¬ todo (shV p.1))
  ext : Ext w wr
theorem marks_next {l : List (Sh × Nat)} {todo : Value → Prop} {f : Nat → Bool} {n : Nat} (hn : ((ents l).map (·.1)).Nodup) (hf : ∀ j, j < n → (f j = true ↔ ∃ p ∈ l, p.2 = j ∧ ¬ todo (shV p.1))) {q : Sh × Nat} (hq : q ∈ l) (hqn : q.2 < n) :
    ∀ j, j < n → ((if j = q.2 then true else f j) = true ↔ ∃ p ∈ l, p.2 = j ∧ ¬ (todo (shV p.1) ∧ shV p.1 ≠ shV q.1)) := by
  intro j hj
  by_cases hjq : j = q.2
  · subst hjq
    simp only [if_true, true_iff]
    exact ⟨q, hq, rfl, fun k => k.2 rfl⟩
  · simp only [hjq, if_false]
    rw [hf j hj]
    constructor
    · rintro ⟨p, h1, h2, h3⟩
      exact ⟨p, h1, h2, fun k => h3 k.1⟩
    · rintro ⟨p, h1, h2, h3⟩
      refine ⟨p, h1, h2, fun k => h3 ⟨k, fun he => hjq ?_⟩⟩
      have h4 : (shV q.1, (p.2 : Int)) ∈ ents l := List.mem_map.2 ⟨p, h1, by simp only [he]⟩
      have h5 : (shV q.1, (q.2 : Int)) ∈ ents l := List.mem_map.2 ⟨q, hq, rfl⟩
      have h6 := nodup_fun hn h4 h5
      omega
set_option maxRecDepth 100000 in
set_option maxHeartbeats 2000000 in
theorem free_calls (S : Nat → Prop) (gv gm gd : Nat) (l : List (Sh × Nat)) (size : Int) (cells : List (List Int)) (loose : List (Int × List Int)) (syncs : Int) (m : Nat) (w : World) (h : VaultAt w gv gm gd l) (hd : Disk.Disk w S gd size cells loose syncs)
    (hl : ∀ p ∈ l, p.2 < cells.length) (hm : m < cells.length) (hu : ∀ j, j < m → j ∈ l.map (·.2)) (hf : m ∉ l.map (·.2)) :
    Calls Try.prog 132 #[.pointer (some ⟨gv, 0, none⟩)] w fun e w' => e = .returned (.int .i64 m) ∧ Ext w w' := by
  have hlen := hd.len_le.2.2.2.1
  obtain ⟨n, hn⟩ : ∃ n, n = cells.length := ⟨_, rfl⟩
  rw [← hn] at hl hm hlen
  have HN := Lib.hid hn
  clear hn
  have HLC := Lib.hid hl
  clear hl
  have hmk := fun W => run_make_row' (P := Try.prog) 220 4 (.bool false) 1 Try.underlying220 info_bool rfl .i64 .i64 n (by omega) (by omega) W
  have hv0 : w.cell? ⟨gv, 0, none⟩ = some (.pointer (some ⟨gd, 0, none⟩)) := blk_cell (i := 0) h.at_ (Ext.refl _) rfl
  go_enter Try.func132, Try.ntmps132
  go_wp2_with fail
  refine (Disk.len_calls S gd size cells loose syncs w hd).mono ?_
  rintro e w1 ⟨rfl, he1⟩
  rw [← HN.out]
  have hv1 : w1.cell? ⟨gv, 1, none⟩ = some (.map (some gm)) := blk_cell (i := 1) (he1.at_ h.at_) (Ext.refl _) rfl
  have HV := Lib.hid (h.ext he1)
  have E1 := Lib.hid he1
  clear hv0
  go_upto_region 3 with fail
  have hB := Lib.hid (bools_made w1 n)
  have E2 := Lib.hid (E1.out.trans (Ext.new w1 (.cells (madeCells #[.bool false] n) 4)))
  have HV2 := Lib.hid (HV.out.ext (Ext.new w1 (.cells (madeCells #[.bool false] n) 4)))
  clear hmk
  have hr2 : (w1.alloc (.cells (madeCells #[.bool false] n) 4)).heap.size = w1.heap.size + 1 := by simp
  have hgv : gv < w.heap.size := h.lt.1
  have hgm : gm < w.heap.size := h.mp.lt
  have hg1 : w.heap.size ≤ w1.heap.size := E1.out.size
  have hL := Lib.hid hu
  have hKeys := Lib.hid h.mp.keys
  generalize w1.alloc (.cells (madeCells #[.bool false] n) 4) = w2 at *
  have hv2 : w2.cell? ⟨gv, 1, none⟩ = some (.map (some gm)) := blk_cell (i := 1) HV2.out.at_ (Ext.refl _) rfl
  clear hv1 he1 h hd hu
  have HR2 := Lib.hid hr2
  clear hr2
  go_wp2_with (refine wpList_range_mp HV2.out.mp shard_keyed Try.underlying117 rfl _ rfl rfl ?_; intro w3 hr3 he3)
  have E3 := Lib.hid (E2.out.trans he3)
  have hB3 := Lib.hid (hB.out.chg (Below.chg (S := fun _ => False) he3) (fun k => k))
  have HR3 := Lib.hid hr3
  clear hr3 he3
  go_frame
  have HND := Lib.hid HV2.out.mp.nodup
  go_loopg [7] (ents l).length (fun cnt _ wr => Hid (Marks w gm w2.heap.size w1.heap.size n l cnt w wr))
  case atStart => exact Lib.hid ⟨⟨_, _, HR3.out, hB3.out, fun j _ => ⟨fun k => (by cases k), fun ⟨p, h1, _, h3⟩ => absurd (List.mem_map.2 ⟨_, List.mem_map.2 ⟨p, h1, rfl⟩, rfl⟩) h3⟩⟩, E3.out⟩
  case round =>
    obtain ⟨⟨todo, f, hrg, hbo, hfm⟩, hex⟩ := hrel.out
    have HX := Lib.hid hex
    have HBO := Lib.hid hbo
    have HFM := Lib.hid hfm
    have HRG := Lib.hid hrg
    clear hrel hex hbo hfm hrg
    go_wp2_with (refine wpList_next_rg HRG.out shard_keyed Try.underlying3 (fun p hp => (hKeys.out p hp).1) rfl _ rfl rfl ?_ ?_)
    · intro _ hdone
      have hfree : f m = false := by
        cases hfm : f m with
        | false => rfl
        | true =>
          obtain ⟨p, h1, h2, _⟩ := (HFM.out m hm).1 hfm
          exact absurd (List.mem_map.2 ⟨p, h1, h2⟩) hf
      have hused : ∀ j, j < m → f j = true := fun j hj => by
        obtain ⟨p, h1, h2⟩ := List.mem_map.1 (hL.out j hj)
        exact (HFM.out j (by omega)).2 ⟨p, h1, h2, hdone _ _ (List.mem_map.2 ⟨p, h1, rfl⟩)⟩
      have HU := Lib.hid hused
      clear hused hdone
      go_wp2_with fail
      refine (index_calls w1.heap.size n n m f wr (by omega) (fun j hj => HBO.out.cell hj) hm HU.out hfree).mono ?_
      rintro e w9 ⟨rfl, rfl⟩
      go_wp2_with fail
      go_ret
      exact ⟨rfl, HX.out⟩
    · intro a b hab htodo w4 cnt hrg4 hlt hc4 hen
      obtain ⟨⟨s, c⟩, hq, he⟩ := List.mem_map.1 hab
      simp only [Prod.mk.injEq] at he
      obtain ⟨rfl, rfl⟩ := he
      have hcn : c < n := HLC.out _ hq
      have hb4 := HBO.out.chg hc4 (by have := HR2.out; omega)
      have HB4 := Lib.hid hb4
      have q1 : w4.cell? ⟨w1.heap.size, c, none⟩ = some (.bool (f c)) := hb4.cell hcn
      have q2 := hb4.free c
      have HRG4 := Lib.hid hrg4
      have HX4 := Lib.hid (HX.out.chg hc4 (fun i hi => by have hi : i = w2.heap.size := hi; have := HR2.out; omega))
      clear hb4 hrg4 hc4 hab htodo
      go_wp2_with fail
      go_roundg cnt
      case measure => omega
      case rel =>
        refine Lib.hid ⟨⟨fun x => todo x ∧ x ≠ shV s, _, ?_, HB4.out.set hcn, marks_next HND.out HFM.out hq hcn⟩, HX4.out.setCell (p := ⟨w1.heap.size, c, none⟩) (by show w.heap.size ≤ w1.heap.size; omega) _⟩
        exact HRG4.out.kept (Below.heap_setCell _ _ _ _ (by show gm ≠ w1.heap.size; omega)) (Below.heap_setCell _ _ _ _ (by show w2.heap.size ≠ w1.heap.size; have := HR2.out; omega))
end Go.Proofs.Ytipmkddcdnbihaa.Vault
