/- What a table tells: all names, an object by its number, how many slots stand on each node (the program's and the document's); walked. -/
import Derived.Test.YtfhgjopoohfhjaaTableSim
namespace Go.Proofs.Ytfhgjopoohfhjaa.Tbl
open Go.RowKit Base Step Vec Shape Erase
def nameV (l : List Obj) : List Value := l.map fun o => .string (name o)
theorem infoStr : (Try.prog.info? 9).map (fun i => (i.zero, i.size, i.bytes)) = some (some (.string ByteArray.empty), 1, 16) := by kernel_rfl
set_option maxRecDepth 100000 in
set_option maxHeartbeats 2000000 in
theorem names_calls (gt sl nd : Nat) (t : Tb) (w : World) (h : TbAt w gt sl nd t) (hn : t.n ≤ 64) :
    Calls Try.prog 139 #[.pointer (some ⟨gt, 0, none⟩)] w fun e w' => Ext w w' ∧ ∃ A c, e = .returned (.slice A t.n c) ∧ New w w' 9 1 A t.n c (nameV t.objs) := by
  obtain ⟨nx, ls, A, n, c, objs⟩ := t
  have hn : n ≤ 64 := hn
  have h : TblAt w gt sl nd nx ls A n c objs := h
  have H := Lib.hid h
  obtain ⟨hl, hnc, _, _⟩ := sl_len h.ok
  have HL := Lib.hid hl
  clear h hl
  go_enter Try.func139, Try.ntmps139
  go_wp2_with fail
  refine (len_calls gt sl nd nx ls A n c objs w H.out).mono ?_
  rintro e w' ⟨rfl, rfl⟩
  go_wp2_with fail
  go_loopg [3, 4, 7] n (fun g v _ i wr => ∃ (k : Nat) (X : Option Addr) (cx : Nat), k ≤ n ∧ g = n - k ∧ i = .int .i64 (k : Nat) ∧ v = .slice X k cx ∧ Hid (Ext w wr) ∧ Hid (New w wr 9 1 X k cx (nameV (objs.take k))))
  case atStart => exact ⟨0, none, 0, Nat.zero_le _, rfl, rfl, rfl, Lib.hid (Ext.refl _), Lib.hid (Own.nil _ _ _ _)⟩
  case round =>
    obtain ⟨k, X, cx, hk, rfl, rfl, rfl, HX, HO⟩ := hrel
    by_cases hlt : k < n
    · have hat := H.out.ext HX.out
      obtain ⟨ad, o, rfl, ho, hcell, _⟩ := obj_at (Sh.ok_off H.out.ok) hlt
      have c1 := (hcell.ext HX.out).c1
      have t4 : wr.cell? ⟨gt, 4, none⟩ = some (.slice (some ad) n c) := blk_cell (i := 4) hat.at_ (Ext.refl _) rfl
      have hki : ((k : Nat) : Int) < ((n : Nat) : Int) := by omega
      have HOB := Lib.hid ho
      clear hat hcell ho
      go_wp2_with (at_builtin; refine wpList_appE _ rfl _ _ _ rfl (fun i => w.heap.size ≤ i) 9 _ 1 16 Try.underlying186 infoStr rfl (by decide) (by decide) _ k (nameV (objs.take k)) rfl (HO.out.extNew (Ext.new wr _)) wr.heap.size 1 [.string (name o)] rfl rfl (fun j u hu => blk_cell (at_new wr _) (Ext.refl _) (by simpa using hu)) (by simp [Value.oneCell']) (by omega) (fun i hi => Nat.le_trans HX.out.size (Nat.le_trans (by simp) hi)) ?_; intro A2 c2 w12 ho12 hc12; have hE12 : Ext w w12 := (HX.out.trans (Ext.new wr _)).chg hc12 fun i hi => HO.out.foot i hi)
      have hcat : nameV (objs.take k) ++ [.string (name o)] = nameV (objs.take (k + 1)) := by
        rw [List.take_add_one, HOB.out]
        simp [nameV]
      rw [hcat] at ho12
      have HO12 := Lib.hid ho12
      have HE12 := Lib.hid hE12
      clear ho12 hE12 hc12 hcat
      go_wp2_with fail
      go_roundg (n - (k + 1))
      case measure => omega
      case rel => exact ⟨k + 1, A2, c2, by omega, rfl, by first | rfl | go_num, rfl, HE12, HO12⟩
    · obtain rfl : k = n := by omega
      go_wp2_with fail
      go_ret
      have ho := HO.out
      rw [List.take_of_length_le (by rw [HL.out]; exact Nat.le_refl _)] at ho
      exact ⟨HX.out, X, cx, rfl, ho⟩
set_option maxRecDepth 100000 in
set_option maxHeartbeats 2000000 in
theorem numbered_calls (gt sl nd : Nat) (t : Tb) (num : Int) (k : Nat) (w : World) (h : TbAt w gt sl nd t) (hn : t.n ≤ 1099511627776) (hs : ∀ o ∈ t.objs, Small o) (hk : numAt t.objs num = k) (hkn : k < t.n) :
    Calls Try.prog 145 #[.pointer (some ⟨gt, 0, none⟩), .int .u32 num] w (Told w t.objs[k]?) := by
  have he := Lib.hid (Ext.new w (.cells #[.int .u32 0, .string ⟨#[]⟩, .int .i64 0, .int .i64 0, .int .i64 0, .slice none 0 0] 108))
  have hb := at_new w (.cells #[.int .u32 0, .string ⟨#[]⟩, .int .i64 0, .int .i64 0, .int .i64 0, .slice none 0 0] 108)
  have H := Lib.hid h
  have HS := Lib.hid hs
  have HK := Lib.hid hk
  clear h hs hk
  go_enter Try.func145, Try.ntmps145
  go_upto_region 1 with fail
  generalize w.alloc (.cells #[.int .u32 0, .string ⟨#[]⟩, .int .i64 0, .int .i64 0, .int .i64 0, .slice none 0 0] 108) = wa at *
  have HB := Lib.hid hb
  clear hb
  go_wp2_with fail
  refine (number_calls gt sl nd t.nx t.ls t.A t.n t.c t.objs num wa (H.out.ext he.out) hn).mono ?_
  rintro e w1 ⟨rfl, he1⟩
  have HE1 := Lib.hid (he.out.trans he1)
  have HB1 := Lib.hid (he1.at_ HB.out)
  rw [HK.out]
  clear he1
  go_wp2_with fail
  refine (at_calls gt sl nd t.nx t.ls t.A t.n t.c t.objs k w1 (H.out.ext HE1.out) hn HS.out hkn).mono ?_
  intro e w2 h2
  obtain ⟨o, ho⟩ : ∃ o, t.objs[k]? = some o := ⟨_, List.getElem?_eq_getElem (by have := (sl_len H.out.ok).1; omega)⟩
  rw [ho] at h2
  obtain ⟨o', rfl, hcp⟩ := h2
  have hb2 := hcp.ext.at_ HB1.out
  have HCP := Lib.hid (hcp.from HE1.out)
  have HO := Lib.hid ho
  clear hcp ho
  go_wp2_with (refine RowSt.wpList_put 108 _ _ rfl rfl rfl w.heap.size #[.int .u32 (Tbl.num o'), .string (name o'), .int .i64 (plan o').1, .int .i64 (plan o').2.1, .int .i64 (plan o').2.2.1, .slice (pA o') (pN o') (pC o')] rfl rfl 108 _ hb2 (by kernel_rfl) rfl (by simp [Value.oneCell']) ?_; intro w8 hb8 hc8)
  refine bodyPost_ret (v := .tuple #[objV o', .bool true]) (RowSt.results_cell_tmp (p := 4) (q := 5) rfl _ _ w.heap.size 108 _ (0, 0) _ rfl hb8 Try.underlying108 rfl (by kernel_rfl)) rfl ?_
  rw [HO.out]
  exact told_some (HCP.out.put hb2 hc8 (Nat.le_refl _))
/-! how many slots stand on each node -/
def bump (u : List Int) (p : plS.T) : List Int := u.set (node p).toNat (u.getD (node p).toNat 0 + 1)
def plsOf (o : Obj) : List plS.T := (rows o).flatMap rP
def useOf (nd : Nat) (l : List plS.T) : List Int := l.foldl bump (List.replicate nd 0)
theorem useOf_len (nd : Nat) (l : List plS.T) : (useOf nd l).length = nd := by
  have : ∀ (l : List plS.T) (u : List Int), (l.foldl bump u).length = u.length := by
    intro l
    induction l with
    | nil => intro u; rfl
    | cons p l ih => intro u; rw [List.foldl_cons, ih]; simp [bump]
  unfold useOf
  rw [this, List.length_replicate]
theorem useOf_le (nd : Nat) (l : List plS.T) : ∀ x ∈ useOf nd l, 0 ≤ x ∧ x ≤ l.length := by
  have : ∀ (l : List plS.T) (u : List Int) (k : Nat), (∀ x ∈ u, 0 ≤ x ∧ x ≤ k) → ∀ x ∈ l.foldl bump u, 0 ≤ x ∧ x ≤ ((k + l.length : Nat) : Int) := by
    intro l
    induction l with
    | nil => intro u k h x hx; have := h x hx; simp at this ⊢; omega
    | cons p l ih =>
      intro u k h
      rw [List.foldl_cons]
      have h1 := ih (bump u p) (k + 1) (fun x hx => by
        rcases List.mem_or_eq_of_mem_set hx with hx | hx
        · have := h x hx
          omega
        · have h2 : 0 ≤ u.getD (node p).toNat 0 ∧ u.getD (node p).toNat 0 ≤ k := by
            rw [List.getD_eq_getElem?_getD]
            cases hg : u[(node p).toNat]? with
            | none => simp
            | some y => exact h y (List.mem_of_getElem? hg)
          omega)
      intro x hx
      have := h1 x hx
      simp only [List.length_cons]
      omega
  intro x hx
  have h1 := this l (List.replicate nd 0) 0 (fun x hx => by simp at hx; omega) x hx
  simpa using h1
theorem useOf_snoc (nd : Nat) (l : List plS.T) (p : plS.T) : useOf nd (l ++ [p]) = bump (useOf nd l) p := by
  unfold useOf
  rw [List.foldl_append]
  rfl
/-- What has been gone through: objects, then rows, then places. -/
def seen (objs : List Obj) (i j m : Nat) : List plS.T :=
  (objs.take i).flatMap plsOf ++ (match objs[i]? with | some o => ((rows o).take j).flatMap rP ++ (match (rows o)[j]? with | some r => (rP r).take m | none => []) | none => [])
theorem seen_place {objs : List Obj} {i j m : Nat} {o : Obj} {r : Row} {p : plS.T} (ho : objs[i]? = some o) (hr : (rows o)[j]? = some r) (hp : (rP r)[m]? = some p) : seen objs i j (m + 1) = seen objs i j m ++ [p] := by
  unfold seen
  simp only [ho, hr]
  rw [List.take_add_one, hp]
  simp
theorem seen_row {objs : List Obj} {i j m : Nat} {o : Obj} {r : Row} (ho : objs[i]? = some o) (hr : (rows o)[j]? = some r) (hm : (rP r).length ≤ m) : seen objs i (j + 1) 0 = seen objs i j m := by
  unfold seen
  simp only [ho, hr]
  rw [List.take_add_one, hr, List.take_of_length_le hm]
  cases (rows o)[j + 1]? <;> simp
theorem seen_obj {objs : List Obj} {i j : Nat} {o : Obj} (ho : objs[i]? = some o) (hj : (rows o).length ≤ j) : seen objs (i + 1) 0 0 = seen objs i j 0 := by
  unfold seen
  simp only [ho]
  rw [List.take_add_one, ho, List.take_of_length_le hj, List.getElem?_eq_none hj]
  have e : ((some o).toList : List Obj) = [o] := rfl
  cases h2 : objs[i + 1]? with
  | none => simp [plsOf]
  | some x =>
    simp [plsOf]
    split <;> rfl
theorem seen_none {objs : List Obj} : seen objs 0 0 0 = [] := by
  unfold seen
  cases h2 : objs[0]? with
  | none => simp
  | some x =>
    simp
    split <;> rfl
theorem seen_all {objs : List Obj} {n : Nat} (h : objs.length ≤ n) : seen objs n 0 0 = objs.flatMap plsOf := by
  unfold seen
  rw [List.take_of_length_le h, List.getElem?_eq_none h]
  simp
/-- Objects whose places are few, on nodes that are there. -/
structure Few (nd sl : Nat) (objs : List Obj) : Prop where
  few : objs.length ≤ 64
  each : ∀ o ∈ objs, (rows o).length ≤ 32 ∧ (rows o).length = pN o ∧ ∀ r ∈ rows o, rN r = sl ∧ ∀ p ∈ rP r, 0 ≤ node p ∧ node p < nd
theorem flat_le_mul {α β : Type} (f : α → List β) (k : Nat) : ∀ (l : List α), (∀ x ∈ l, (f x).length ≤ k) → (l.flatMap f).length ≤ l.length * k
  | [], _ => by simp
  | x :: l, h => by
    have h1 := h x List.mem_cons_self
    have h2 := flat_le_mul f k l fun y hy => h y (List.mem_cons_of_mem _ hy)
    simp only [List.flatMap_cons, List.length_append, List.length_cons, Nat.succ_mul]
    omega
theorem seen_len {objs : List Obj} {nd sl i j m : Nat} (hf : Few nd sl objs) (hsl : sl ≤ 24) (hok : ∀ o ∈ objs, ∀ r ∈ rows o, (rP r).length = rN r) : (seen objs i j m).length ≤ 100000 := by
  have hr : ∀ o ∈ objs, ∀ l : List Row, (∀ x ∈ l, x ∈ rows o) → l.length ≤ 32 → (l.flatMap rP).length ≤ 768 := fun o ho l hl hll => by
    have h1 := flat_le_mul rP 24 l fun r hr => by
      have h2 := hok o ho r (hl r hr)
      have h3 := ((hf.each o ho).2.2 r (hl r hr)).1
      omega
    omega
  have h1 : ((objs.take i).flatMap plsOf).length ≤ 49152 := by
    have h2 := flat_le_mul plsOf 768 (objs.take i) fun o ho => by
      have ho := List.mem_of_mem_take ho
      exact hr o ho (rows o) (fun _ h => h) (hf.each o ho).1
    have h3 : (objs.take i).length ≤ 64 := by have := hf.few; simp; omega
    omega
  unfold seen
  rw [List.length_append]
  cases ho : objs[i]? with
  | none => simp only [List.length_nil]; omega
  | some o =>
    have hom := List.mem_of_getElem? ho
    have h2 := hr o hom ((rows o).take j) (fun x hx => List.mem_of_mem_take hx) (by have := (hf.each o hom).1; simp; omega)
    simp only [List.length_append]
    cases hrr : (rows o)[j]? with
    | none => simp only [List.length_nil]; omega
    | some r =>
      have h3 := hok o hom r (List.mem_of_getElem? hrr)
      have h4 := ((hf.each o hom).2.2 r (List.mem_of_getElem? hrr)).1
      simp only [List.length_take]
      omega
end Go.Proofs.Ytfhgjopoohfhjaa.Tbl
