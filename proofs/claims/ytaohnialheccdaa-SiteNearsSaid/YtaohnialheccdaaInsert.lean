/- slices.Insert of one int into a row of the call's own, out of the kit's shelf. -/
import Derived.Shelf.Spec.SlicesInsert
import Derived.Shelf.Spec.SlicesInsertGrow
import Derived.Test.YtaohnialheccdaaVec
import Derived.Test.YtaohnialheccdaaProg
namespace Go.Proofs.Ytaohnialheccdaa.Insert
open Go.RowKit Base Step Vec
open Go.Shelf
def ren21 : Go.Shelf.Ren := ⟨fun | 21 => 78 | 27 => 79 | 28 => 80 | 35 => 81 | 39 => 82 | n => n, fun | 0 => 0 | 3 => 3 | 4 => 4 | 22 => 104 | n => n, fun | n => n⟩
theorem lays21 : Go.Proofs.Lays2.n21 Try.prog ren21 := {
  mixed := by kernel_rfl
  f21 := Try.func78.trans (congrArg some (by kernel_rfl))
  f27 := Try.func79.trans (congrArg some (by kernel_rfl))
  f28 := Try.func80.trans (congrArg some (by kernel_rfl))
  f35 := Try.func81.trans (congrArg some (by kernel_rfl))
  f39 := Try.func82.trans (congrArg some (by kernel_rfl))
  t0 := Try.underlying0
  a0 := Try.isAgg0
  z0 := Try.sizeOf0
  v0 := Try.zeroValue0
  t3 := Try.underlying3
  a3 := Try.isAgg3
  z3 := Try.sizeOf3
  v3 := Try.zeroValue3
  t4 := Try.underlying4
  a4 := Try.isAgg4
  z4 := Try.sizeOf4
  v4 := Try.zeroValue4
  t22 := Try.underlying104
  a22 := Try.isAgg104
  z22 := Try.sizeOf104
  v22 := Try.zeroValue104
  i3 := by kernel_rfl }
theorem splice : ∀ (vs : List Value) (o : Nat) (w : World) (b : Nat) (cur : Array Value) (e : TypeId) (fr : Nat × Nat), w.heap[b]? = some (.cells cur e fr) → o + vs.length ≤ cur.size →
    ∃ cur', (w.setCells b o vs).heap[b]? = some (.cells cur' e fr) ∧ cur'.toList = cur.toList.take o ++ vs ++ cur.toList.drop (o + vs.length)
  | [], o, w, b, cur, e, fr, h, _ => ⟨cur, h, by simp⟩
  | v :: vs, o, w, b, cur, e, fr, h, hl => by
    simp only [List.length_cons] at hl
    obtain ⟨cur', h1, h2⟩ := splice vs (o + 1) (w.setCell ⟨b, o, none⟩ v) b (cur.setIfInBounds o v) e fr (set_blk h v) (by simp; omega)
    refine ⟨cur', h1, ?_⟩
    have ho : o < cur.toList.length := by simp; omega
    rw [h2, Array.toList_setIfInBounds, List.take_set, List.take_succ_eq_append_getElem ho, List.set_append_right _ _ (by simp; omega), List.drop_set_of_lt (by omega)]
    have : o - (cur.toList.take o).length = 0 := by simp; omega
    rw [this]
    simp only [List.set_cons_zero, List.append_assoc, List.singleton_append, List.length_cons]
    rw [show o + 1 + vs.length = o + (vs.length + 1) by omega]
theorem chg_setCells (b : Nat) : ∀ (vs : List Value) (o : Nat) (w : World), Chg (fun i => i = b) w (w.setCells b o vs)
  | [], _, _ => Chg.refl _ _
  | v :: vs, o, w => (Chg.setCell (S := fun i => i = b) (Chg.refl _ w) (p := ⟨b, o, none⟩) rfl v).trans (chg_setCells b vs (o + 1) _)
set_option maxHeartbeats 2000000 in
/-- slices.Insert(out, i, x): a row of the call's own. -/
theorem insert_calls (w0 w : World) (A : Option Addr) (n c : Nat) (xs : List Int) (i : Nat) (x : Int) (vb : Nat) (hown : New w0 w 3 1 A n c (nums .i64 xs)) (hE : Ext w0 w) (hi : i ≤ n) (hn : n ≤ 1099511627776) (hvb : w.heap[vb]? = some (.cells #[.int .i64 x] 3 (0, 0))) (hne : (Value.slice A n c).ownBlock ≠ some vb) :
    Calls Try.prog 78 #[.slice A n c, .int .i64 i, .slice (some ⟨vb, 0, none⟩) 1 1] w fun e w' => ∃ A' c', e = .returned (.slice A' (n + 1) c') ∧ New w0 w' 3 1 A' (n + 1) c' (nums .i64 (xs.take i ++ x :: xs.drop i)) ∧ Ext w0 w' := by
  have hl : xs.length = n := by have := hown.row.1; simpa [nums] using this
  have hlen : (nums .i64 xs).length = n := by rw [nums_length, hl]
  have hvs : ∀ (j : Nat) v, [Value.int .i64 x][j]? = some v → w.cell? ⟨vb, 0 + j, none⟩ = some v := fun j v h => by
    rw [Nat.zero_add]
    exact blk_cell hvb (Ext.refl _) (by simpa using h)
  have h1v : ∀ v ∈ [Value.int .i64 x], v.oneCell' = true := by intro v hv; rw [List.mem_singleton.1 hv]; rfl
  have h1c := nums_oneCell .i64 xs
  have hcap := hown.cap
  have hfin : ∀ (w' : World) (cur : Array Value) (g c' : Nat), w0.heap.size ≤ g → w'.heap[g]? = some (.cells cur 3 (0, 0)) → n + 1 ≤ c' → c' ≤ maxLen → cur.size = c' → cur.toList.take (n + 1) = nums .i64 (xs.take i ++ x :: xs.drop i) → New w0 w' 3 1 (some ⟨g, 0, none⟩) (n + 1) c' (nums .i64 (xs.take i ++ x :: xs.drop i)) := fun w' cur g c' hg hh h1 h2 h3 h4 =>
    ⟨⟨by rw [nums_length]; simp; omega, .inr ⟨g, c', cur, rfl, Nat.zero_le _, hh, h1, h2, by omega, by rw [Nat.mul_one]; exact h4⟩⟩, fun k hk => by simp [Value.ownBlock] at hk; omega⟩
  have hnums : nums .i64 (xs.take i ++ x :: xs.drop i) = (nums .i64 xs).take i ++ .int .i64 x :: (nums .i64 xs).drop i := by simp [nums, List.map_take, List.map_drop]
  by_cases hroom : n + 1 ≤ c
  · -- there is room
    obtain ⟨g, cap, cur, hv, hb, hh, h3, h4, h5, h6⟩ : ∃ g cap cur, (Value.slice A n c) = .slice (some ⟨g, 0, none⟩) n cap ∧ (0 : Nat) ≤ g ∧ w.heap[g]? = some (.cells cur 3 (0, 0)) ∧ n ≤ cap ∧ cap ≤ maxLen ∧ cur.size = cap * 1 ∧ cur.toList.take (n * 1) = nums .i64 xs := by
      rcases hown.row.2 with ⟨h, _⟩ | h
      · cases h; omega
      · exact h
    cases hv
    rw [Nat.mul_one] at h5 h6
    have hg : w0.heap.size ≤ g := hown.foot g rfl
    have hgne : vb ≠ g := fun e => hne (by rw [e]; rfl)
    have hc63 : c ≤ 9223372036854775807 := by simpa only [maxLen] using h4
    have hcell : ∀ j, j < c → ∃ u, w.cell? ⟨g, 0 + j, none⟩ = some u := fun j hj => ⟨cur[j]'(by omega), by
      rw [Nat.zero_add, cell_of_row w g j cur _ _ hh, Array.getElem?_eq_getElem]⟩
    have hfz : ∀ j, w.frozen? ⟨g, j, none⟩ = false := Pack.free_of hh
    have hcs : ∀ (j : Nat) v, (nums .i64 xs)[j]? = some v → w.cell? ⟨g, 0 + j, none⟩ = some v := fun j v h => by
      rw [Nat.zero_add, cell_of_row w g j cur _ _ hh, ← Array.getElem?_toList]
      have hj : j < n := by have := (List.getElem?_eq_some_iff.1 h).1; omega
      rw [← h6, List.getElem?_take_of_lt hj] at h
      exact h
    by_cases hin : i = n
    · subst hin
      refine (Any2.slices_Insert_int_end_room lays21 g 0 i c vb 0 1 1 [.int .i64 x] w (by decide) hroom hc63 rfl (fun j hj => by obtain ⟨u, hu⟩ := hcell (i + j) (by omega); rw [Nat.zero_add] at hu; rw [Nat.zero_add, hu]; rfl) (fun j hj => hfz _) hvs h1v).mono ?_
      rintro e w' ⟨rfl, rfl⟩
      obtain ⟨cur', k1, k2⟩ := splice [.int .i64 x] i w g cur _ _ hh (by simp; omega)
      rw [Nat.zero_add]
      have hsz : cur'.size = cur.size := by have := congrArg List.length k2; simp at this; omega
      refine ⟨_, c, rfl, hfin _ cur' g c hg k1 hroom h4 (by omega) ?_, hE.chg (chg_setCells g _ _ _) fun j hj => by rw [hj]; exact hg⟩
      rw [k2, h6, hnums, List.take_of_length_le (l := nums .i64 xs) (by omega), List.drop_of_length_le (l := nums .i64 xs) (by omega)]
      rw [List.take_left' (by simp; omega)]
    · have hilt : i < n := by omega
      refine (Any2.slices_Insert_int_shift lays21 g 0 n c i vb 0 1 1 (nums .i64 xs) [.int .i64 x] w hilt (by decide) hroom hc63 hgne hlen rfl hcs (fun j hj => by obtain ⟨u, hu⟩ := hcell j (by omega); rw [hu]; rfl) (fun j hj => hfz _) hvs h1c h1v 3 3 1 cur.size (by simp [World.shape?, hvb]) (by simp [World.shape?, hh]) (by omega) (Pack.free_of hvb 0) (Pack.free_of hvb 1)).mono ?_
      rintro e w' ⟨rfl, rfl⟩
      have hd : ((nums .i64 xs).drop i).length = n - i := by rw [List.length_drop, hlen]
      obtain ⟨cur1, k1, k2⟩ := splice ((nums .i64 xs).drop i) (0 + (i + 1)) w.drew g cur _ _ hh (by rw [hd]; omega)
      have hsz1 : cur1.size = cur.size := by have := congrArg List.length k2; simp [hlen] at this; omega
      obtain ⟨cur2, k3, k4⟩ := splice [.int .i64 x] (0 + i) _ g cur1 _ _ k1 (by simp; omega)
      have hsz2 : cur2.size = cur1.size := by have := congrArg List.length k4; simp at this; omega
      refine ⟨_, c, rfl, hfin _ cur2 g c hg k3 hroom h4 (by omega) ?_, (hE.drew.chg (chg_setCells g _ _ _) fun j hj => by rw [hj]; exact hg).chg (chg_setCells g _ _ _) fun j hj => by rw [hj]; exact hg⟩
      rw [k4, k2, hnums]
      simp only [Nat.zero_add, List.length_singleton]
      have e1 : (cur.toList.take (i + 1) ++ (nums .i64 xs).drop i ++ cur.toList.drop (i + 1 + ((nums .i64 xs).drop i).length)).take i = (nums .i64 xs).take i := by
        rw [List.append_assoc, List.take_append_of_le_length (by simp; omega), List.take_take, ← h6, List.take_take]
        congr 1
        omega
      have e2 : (cur.toList.take (i + 1) ++ (nums .i64 xs).drop i ++ cur.toList.drop (i + 1 + ((nums .i64 xs).drop i).length)).drop (i + 1) = (nums .i64 xs).drop i ++ cur.toList.drop (i + 1 + ((nums .i64 xs).drop i).length) := by
        rw [List.append_assoc, List.drop_left' (by simp; omega)]
      rw [e1, e2, ← List.append_assoc, List.append_assoc ((nums .i64 xs).take i), List.take_left' (by simp [hlen]; omega)]
      rfl
  · -- a new array
    have hsize : (Builtin.zeroCells (Value.int .i64 0).cells (grownCap w (n + 1) c 3 - (n + 1))).size = grownCap w (n + 1) c 3 - (n + 1) := by rw [size_zeroCells]; simp [Value.cells]
    have hge : n + 1 ≤ grownCap w (n + 1) c 3 := grownCap_ge w (n + 1) c 3
    have hle : grownCap w (n + 1) c 3 ≤ maxLen := grownCap_le_maxLen w (n + 1) c 3 (by simp only [maxLen]; omega)
    by_cases hin : i = n
    · subst hin
      refine (Any2.slices_Insert_int_end_grow lays21 A i c vb 0 1 1 (nums .i64 xs) [.int .i64 x] w (by decide) hcap.1 (by omega) (by omega) hlen rfl (fun h => by have := hcap.2 h; omega) (fun a ha j v hv => by
        subst ha
        obtain ⟨ad, h1, h2⟩ := own_cell hown hv
        cases h1
        exact h2) hvs h1v).mono ?_
      rintro e w' ⟨rfl, rfl⟩
      simp only [show ren21.t 3 = 3 from rfl]
      refine ⟨_, _, rfl, hfin _ _ _ _ (hE.size) (at_new w.drew _) hge hle ?_ ?_, hE.drew.alloc _⟩
      · rw [Array.size_append, hsize]; simp; omega
      · rw [Array.toList_append, List.take_left' (by simp [hlen]), hnums, List.take_of_length_le (l := nums .i64 xs) (by omega), List.drop_of_length_le (l := nums .i64 xs) (by omega)]
    · have hilt : i < n := by omega
      obtain ⟨g, cap, cur, hv, hb, hh, h3, h4, h5, h6⟩ : ∃ g cap cur, (Value.slice A n c) = .slice (some ⟨g, 0, none⟩) n cap ∧ (0 : Nat) ≤ g ∧ w.heap[g]? = some (.cells cur 3 (0, 0)) ∧ n ≤ cap ∧ cap ≤ maxLen ∧ cur.size = cap * 1 ∧ cur.toList.take (n * 1) = nums .i64 xs := by
        rcases hown.row.2 with ⟨h, _⟩ | h
        · cases h; omega
        · exact h
      cases hv
      refine (Any2.slices_Insert_int_grow lays21 g 0 n c i vb 0 1 1 (nums .i64 xs) [.int .i64 x] w hilt (by decide) hcap.1 (by omega) (by omega) hlen rfl (fun j v h => by
        rw [Nat.zero_add, cell_of_row w g j cur _ _ hh, ← Array.getElem?_toList]
        have hj : j < n := by have := (List.getElem?_eq_some_iff.1 h).1; omega
        rw [Nat.mul_one] at h6
        rw [← h6, List.getElem?_take_of_lt hj] at h
        exact h) hvs h1c h1v).mono ?_
      rintro e w' ⟨rfl, rfl⟩
      simp only [show ren21.t 3 = 3 from rfl]
      have hz1 : (Builtin.zeroCells (Value.int .i64 0).cells (n + 1 - i)).size = n + 1 - i := by rw [size_zeroCells]; simp [Value.cells]
      have hd : ((nums .i64 xs).drop i).length = n - i := by rw [List.length_drop, hlen]
      have ht : ((nums .i64 xs).take i).length = i := by rw [List.length_take, hlen]; omega
      generalize hC : ((nums .i64 xs).take i).toArray ++ Builtin.zeroCells (Value.int .i64 0).cells (n + 1 - i) ++ Builtin.zeroCells (Value.int .i64 0).cells (grownCap w (n + 1) c 3 - (n + 1)) = C
      have hCs : C.size = grownCap w (n + 1) c 3 := by rw [← hC]; simp only [Array.size_append, hz1, hsize, List.size_toArray, ht]; omega
      have hCt : C.toList.take i = (nums .i64 xs).take i := by rw [← hC, Array.append_assoc, Array.toList_append, List.take_left' (by simpa using ht)]
      have hb0 : ((w.alloc (.cells C 3)).drew).heap[w.heap.size]? = some (.cells C 3 (0, 0)) := at_new w _
      obtain ⟨cur1, k1, k2⟩ := splice [.int .i64 x] i _ w.heap.size C _ _ hb0 (by simp; omega)
      have hsz1 : cur1.size = C.size := by have := congrArg List.length k2; simp at this; omega
      obtain ⟨cur2, k3, k4⟩ := splice ((nums .i64 xs).drop i) (i + 1) (((w.alloc (.cells C 3)).drew.setCells w.heap.size i [.int .i64 x]).drew) w.heap.size cur1 _ _ k1 (by rw [hd]; omega)
      have hsz2 : cur2.size = cur1.size := by have := congrArg List.length k4; simp [hlen] at this; omega
      refine ⟨_, _, rfl, hfin _ cur2 w.heap.size _ hE.size k3 hge hle (by omega) ?_, ?_⟩
      · rw [k4, k2, hCt, hnums]
        have e1 : ((nums .i64 xs).take i ++ [Value.int .i64 x] ++ C.toList.drop (i + 1)).take (i + 1) = (nums .i64 xs).take i ++ [Value.int .i64 x] := List.take_left' (by simp [hlen]; omega)
        simp only [List.length_singleton]
        rw [e1, List.take_left' (by simp [hlen]; omega)]
        simp
      · exact (((hE.alloc _).drew.chg (chg_setCells _ _ _ _) fun j hj => by rw [hj]; exact hE.size).drew).chg (chg_setCells _ _ _ _) fun j hj => by rw [hj]; exact hE.size
theorem insert_at (w0 w : World) (A : Option Addr) (n c : Nat) (xs : List Int) (i : Nat) (z : Int) (hz : z = i) (x : Int) (vb : Nat) (hown : New w0 w 3 1 A n c (nums .i64 xs)) (hE : Ext w0 w) (hi : i ≤ n) (hn : n ≤ 1099511627776) (hvb : w.heap[vb]? = some (.cells #[.int .i64 x] 3 (0, 0))) (hne : (Value.slice A n c).ownBlock ≠ some vb) :
    Calls Try.prog 78 #[.slice A n c, .int .i64 z, .slice (some ⟨vb, 0, none⟩) 1 1] w fun e w' => ∃ A' c', e = .returned (.slice A' (n + 1) c') ∧ New w0 w' 3 1 A' (n + 1) c' (nums .i64 (xs.take i ++ x :: xs.drop i)) ∧ Ext w0 w' := by
  subst hz
  exact insert_calls w0 w A n c xs i x vb hown hE hi hn hvb hne
end Go.Proofs.Ytaohnialheccdaa.Insert
