/- UrgentPlays, walked. -/
import Derived.Test.YtipmkddcdnbihaaUrgN
namespace Go.Proofs.Ytipmkddcdnbihaa.UrgW
open Go.RowKit Base Step MapIs Vec Shape
open UrgP Urg
abbrev rjF : Shape.Fs := .cons (.int .u32) (.cons (.int .u16) (.cons (.int .i64) .nil))
abbrev actS : Shape.Sh := .st (.cons (.int .i64) (.cons (.st rjF) .nil))
abbrev Act := actS.T
def kindOf (x : Act) : Int := x.1
def jobIn (x : Act) : Job := ⟨x.2.1.1, x.2.1.2.1, x.2.1.2.2.1⟩
theorem act_at {w : World} {A : Option Addr} {n c : Nat} {l : List Act} (h : (Shape.Sh.sl actS).ok w (A, n, c, l)) {i : Nat} (hi : i < n) : ∃ ad x, A = some ad ∧ l[i]? = some x ∧ Ok (jobIn x) ∧ w.cell? (ad.add (i * 4)) = some (.int .i64 (kindOf x)) ∧
    w.cell? ⟨(ad.add (i * 4)).block, (ad.add (i * 4)).off + 1, none⟩ = some (.int .u32 (jobIn x).o) ∧ w.cell? ⟨(ad.add (i * 4)).block, (ad.add (i * 4)).off + 2, none⟩ = some (.int .u16 (jobIn x).s) ∧ w.cell? ⟨(ad.add (i * 4)).block, (ad.add (i * 4)).off + 3, none⟩ = some (.int .i64 (jobIn x).g) := by
  obtain ⟨h1, h2, h3, h4, h5⟩ : l.length = n ∧ n ≤ c ∧ c ≤ maxLen ∧ (A = none → c = 0) ∧ ∀ i (x : Act), l[i]? = some x → actS.ok w x ∧ ∃ ad, A = some ad ∧ ∀ j u, (actS.cells x)[j]? = some u → w.cell? (ad.add (i * actS.size + j)) = some u := h
  obtain ⟨x, hx⟩ : ∃ x, l[i]? = some x := ⟨_, List.getElem?_eq_getElem (by omega)⟩
  obtain ⟨ho, ad, rfl, hc⟩ := h5 i x hx
  have hsz : actS.size = 4 := rfl
  rw [hsz] at hc
  obtain ⟨kd, ⟨o, s, g, u⟩, u2⟩ := x
  obtain ⟨_, hj, _⟩ : (Lit.int .i64 kd).wf = true ∧ _ ∧ True := ho
  obtain ⟨k0, k1, k2, _⟩ : (Lit.int .u32 o).wf = true ∧ (Lit.int .u16 s).wf = true ∧ (Lit.int .i64 g).wf = true ∧ True := hj
  have e0 := hc 0 (.int .i64 kd) rfl
  have e1 := hc 1 (.int .u32 o) rfl
  have e2 := hc 2 (.int .u16 s) rfl
  have e3 := hc 3 (.int .i64 g) rfl
  rw [← add_of_add] at e1 e2 e3
  have b0 := wf_u32 k0
  have b1 := wf_u16 k1
  have b2 := wf_i64 k2
  exact ⟨ad, _, rfl, hx, ⟨b0.1, b0.2, b1.1, b1.2, b2.1, b2.2⟩, e0, e1, e2, e3⟩
/-- A queue and the document's list, alike. -/
structure Alike (w0 : World) (gq gm k : Nat) (A : Option Addr) (m c : Nat) (wr : World) : Prop where
  st : ∃ S l r, QueAt wr S gq gm l ∧ UrgP.Heap l ∧ RowJ wr A m c r ∧ l.Perm r ∧ Sorted r ∧ l.length ≤ k ∧ Fresh w0 S ∧ (∀ ad, A = some ad → ¬ S ad.block ∧ ad.block < wr.heap.size)
  ext : Ext w0 wr
theorem rest_alike {w0 w1 w' : World} {S : Nat → Prop} {gq gm k : Nat} {l r : List Job} {A : Option Addr} {m c : Nat} (hq : QueAt w1 S gq gm l) (hh : UrgP.Heap l) (hr : Urg.Rest w1 A m c r w') (hok : ∀ x ∈ r, Ok x) (hp : l.Perm r) (hs : Sorted r) (hk : l.length ≤ k) (hF : Fresh w0 S) (hE : Ext w0 w1) : Alike w0 gq gm k A m c w' :=
  ⟨⟨S, l, r, hq.ext hr.ext, hh, RowJ.own hr.own hr.len hok (own_most hr.own), hp, hs, hk, hF, fun ad e => by
    subst e
    have h1 : w1.heap.size ≤ ad.block := hr.own.foot _ rfl
    have h2 := (hr.own.row.lt _ rfl).2
    exact ⟨fun hS => by have := hq.lt _ hS; omega, h2⟩⟩, hE.trans hr.ext⟩
theorem pos_iff {l r : List Job} {k : Int × Int} (hp : l.Perm r) : (posOf l k = none ↔ posOf r k = none) := by
  constructor
  · intro h
    unfold posOf
    rw [List.findIdx?_eq_none_iff]
    intro x hx
    simpa using posOf_none h x (hp.mem_iff.2 hx)
  · intro h
    unfold posOf
    rw [List.findIdx?_eq_none_iff]
    intro x hx
    simpa using posOf_none h x (hp.mem_iff.1 hx)
/-- The list without its first one. -/
theorem tail_row {w : World} {ad : Addr} {n c : Nat} {r : List Job} (h : RowJ w (some ad) n c r) (hn : 0 < n) : RowJ w (some (if 1 = c then ad else ⟨ad.block, ad.off + 3, none⟩)) (n - 1) (c - 1) (r.drop 1) := by
  by_cases hc : 1 = c
  · have h1 := h.room
    have hl := h.len
    have hd : r.drop 1 = [] := List.drop_of_length_le (by omega)
    rw [if_pos hc, hd, show n - 1 = 0 by omega]
    exact ⟨rfl, Nat.zero_le _, by have := h.most; omega, fun e => by (cases e), fun i j hj => by (cases hj)⟩
  · rw [if_neg hc]
    exact h.drop 1 hn
theorem popped_alike {w0 w1 w' : World} {S : Nat → Prop} {gq gm k : Nat} {l r : List Job} {ad : Addr} {m c : Nat} (hq : QueAt w1 S gq gm l) (hh : UrgP.Heap l) (hr : RowJ w1 (some ad) m c r) (hm : 0 < m) (hp : l.Perm (r.drop 1)) (hs : Sorted r) (hk : m ≤ k) (hF : Fresh w0 S) (hE : Ext w0 w1) (ho : ¬ S ad.block ∧ ad.block < w1.heap.size) (hX : Ext w1 w') :
    Alike w0 gq gm k (some (if 1 = c then ad else ⟨ad.block, ad.off + 3, none⟩)) (m - 1) (c - 1) w' :=
  ⟨⟨S, l, r.drop 1, hq.ext hX, hh, (tail_row hr hm).ext hX, hp, hs.sublist (List.drop_sublist 1 r), by
    have h1 := hp.length_eq
    rw [List.length_drop, hr.len] at h1
    omega, hF, fun a e => by
    have hb : a.block = ad.block := by
      cases e
      split <;> rfl
    rw [hb]
    exact ⟨ho.1, Nat.lt_of_lt_of_le ho.2 hX.size⟩⟩, hE.trans hX⟩
/-- What is found in the queue is what the document's list has there. -/
theorem found_alike {l r : List Job} {k : Int × Int} {e : Ending} (hp : l.Perm r) (hn : (l.map UrgP.key).Nodup) (h : (posOf l k = none ∧ e = .returned (.tuple #[jobA ⟨0, 0, 0⟩, .bool false])) ∨ ∃ i, posOf l k = some i ∧ e = .returned (.tuple #[jobA (at_ l i), .bool true])) :
    ∃ x b, e = .returned (.tuple #[jobA x, .bool b]) ∧ Hid ((b = false ∧ x = ⟨0, 0, 0⟩ ∧ posOf r k = none) ∨ (b = true ∧ ∃ i, posOf r k = some i ∧ x = at_ r i)) := by
  rcases h with ⟨h, rfl⟩ | ⟨i, h, rfl⟩
  · exact ⟨_, _, rfl, Lib.hid (.inl ⟨rfl, rfl, (pos_iff hp).1 h⟩)⟩
  · refine ⟨_, _, rfl, Lib.hid (.inr ⟨rfl, ?_⟩)⟩
    obtain ⟨i2, h2⟩ : ∃ i, posOf r k = some i := by
      cases h3 : posOf r k with
      | some i => exact ⟨i, rfl⟩
      | none => rw [(pos_iff hp).2 h3] at h; cases h
    refine ⟨i2, h2, ?_⟩
    obtain ⟨a1, a2⟩ := posOf_some h
    obtain ⟨b1, b2⟩ := posOf_some h2
    obtain ⟨d, hd, he⟩ := List.getElem_of_mem (hp.mem_iff.2 (at_mem b1))
    have h4 : at_ l d = at_ r i2 := at_eq (by rw [List.getElem?_eq_getElem hd, he])
    have k1 : (l.map UrgP.key)[i]? = some k := by rw [List.getElem?_map, at_get a1]; exact congrArg some a2
    have k2 : (l.map UrgP.key)[d]? = some k := by rw [List.getElem?_map, at_get hd]; exact congrArg some (by rw [h4]; exact b2)
    rw [← k2] at k1
    have := (List.getElem?_inj (by rw [List.length_map]; exact a1) hn).1 k1
    rw [this, h4]
set_option maxRecDepth 100000 in
set_option maxHeartbeats 8000000 in
theorem plays_walk (A : Option Addr) (n c : Nat) (l : List Act) (j : Job) (w : World) (hl : (Shape.Sh.sl actS).ok w (A, n, c, l)) (hj : Ok j) :
    Calls Try.prog 4 #[.slice A n c, jobA j] w fun e w' => e = .returned (.bool true) ∧ Ext w w' := by
  have e0 := Ext.new w (.cells #[.int .u32 j.o, .int .u16 j.s, .int .i64 j.g] 35)
  have hb0 := at_new w (.cells #[.int .u32 j.o, .int .u16 j.s, .int .i64 j.g] 35)
  have HL := Lib.hid (Shape.Sh.ok_ext e0 (Shape.Sh.sl actS) (A, n, c, l) hl)
  have hn : n ≤ 9223372036854775807 := by have h1 := hl.2.1; have h2 := hl.2.2.1; simp only [maxLen] at h2; exact Nat.le_trans h1 (by omega)
  have HJ := Lib.hid hj
  have E0 := Lib.hid e0
  clear hl e0 hj
  go_enter Try.func4, Try.ntmps4
  go_upto_region 1 with fail
  generalize w.alloc (.cells #[.int .u32 j.o, .int .u16 j.s, .int .i64 j.g] 35) = wa at *
  have B0 := Lib.hid hb0
  clear hb0
  go_wp2_with fail
  refine (awake_calls _).mono ?_
  rintro e w0 ⟨rfl, he0⟩
  have HE0 := Lib.hid he0
  clear he0
  go_wp2_with fail
  refine (new_calls _).mono ?_
  rintro e w1 ⟨gq, gm, rfl, hq1, he1⟩
  have HF : Hid (Alike wa gq gm 0 none 0 0 w1) := Lib.hid ⟨⟨_, [], [], hq1, heap_nil, RowJ.nil_ _, List.Perm.refl _, List.Pairwise.nil, Nat.le_refl _, fun q hq => hq.elim (fun k => k.elim) (fun k => Nat.le_trans HE0.out.size k.1), fun ad e => by cases e⟩, HE0.out.trans he1⟩
  clear hq1 he1
  go_upto_block 0 with fail
  go_cut [6] (fun v wx => ∃ A m c, v = .slice A m c ∧ Hid (Alike wa gq gm 60 A m c wx))
  case first =>
    go_wp2_with fail
    go_loopg [6, 7] 60 (fun left v i wr => ∃ (A' : Option Addr) (m c' k : Nat), v = .slice A' m c' ∧ i = .int .i64 k ∧ k ≤ n ∧ k + left = 60 ∧ Hid (Alike wa gq gm k A' m c' wr))
    case atStart => exact ⟨none, 0, 0, 0, rfl, rfl, Nat.zero_le _, by omega, HF⟩
    case round =>
      clear HF
      obtain ⟨A', m, c', k, rfl, rfl, hkn, hk60, HK⟩ := hrel
      by_cases hlt : k < n ∧ k < 60
      · obtain ⟨h1, h2⟩ := hlt
        obtain ⟨ad, x, rfl, hx, hok, c0, c1, c2, c3⟩ := act_at HL.out h1
        replace c0 := HK.out.ext.cell_ c0
        replace c1 := HK.out.ext.cell_ c1
        replace c2 := HK.out.ext.cell_ c2
        replace c3 := HK.out.ext.cell_ c3
        have HOK := Lib.hid hok
        clear hx hok
        obtain ⟨y, hy⟩ : ∃ y, y = jobIn x := ⟨_, rfl⟩
        obtain ⟨kd, hkd⟩ : ∃ kd, kd = kindOf x := ⟨_, rfl⟩
        rw [← hy] at c1 c2 c3 HOK
        rw [← hkd] at c0
        clear hy hkd
        have e3 := Ext.new wr (.cells #[.int .i64 0, .int .u32 0, .int .u16 0, .int .i64 0] 44)
        go_upto_block 2 with (refine RowSt.wpList_put 44 _ _ rfl rfl rfl wr.heap.size #[.int .i64 kd, .int .u32 y.o, .int .u16 y.s, .int .i64 y.g] rfl rfl 44 _ (at_new _ _) (by kernel_rfl) rfl (by simp [Value.oneCell']) ?_; intro w4 hb4 hc4; have d0 := blk_cell (i := 0) hb4 (Ext.refl _) rfl)
        have E4 := Lib.hid (e3.chg hc4 (fun q k => by have k : q = wr.heap.size := k; omega))
        have B4 := Lib.hid hb4
        have d1 := blk_cell (i := 1) hb4 (Ext.refl _) rfl
        have d2 := blk_cell (i := 2) hb4 (Ext.refl _) rfl
        have d3 := blk_cell (i := 3) hb4 (Ext.refl _) rfl
        obtain ⟨S, lk, r, hq, hh, hr, hp, hs, hlk, hFr, hoff⟩ := HK.out.st
        have HLt : Hid (∀ q, S q → q < wr.heap.size) := Lib.hid hq.lt
        have HRok : Hid (∀ x ∈ r, Ok x) := Lib.hid fun x hx => by
          obtain ⟨i, hi, he⟩ := List.getElem_of_mem hx
          exact (hr.at_ i x (by rw [List.getElem?_eq_getElem hi, he])).1
        have HQ := Lib.hid (hq.ext E4.out)
        have HH := Lib.hid hh
        have HR := Lib.hid (hr.ext E4.out)
        have HP := Lib.hid hp
        have HS := Lib.hid hs
        have HFr := Lib.hid hFr
        have HOff : Hid (∀ ad, A' = some ad → ¬ S ad.block ∧ ad.block < w4.heap.size) := Lib.hid fun ad e => ⟨(hoff ad e).1, Nat.lt_of_lt_of_le (hoff ad e).2 E4.out.size⟩
        have HE4 := Lib.hid (HK.out.ext.trans E4.out)
        have hl1000 : lk.length ≤ 1000 := by omega
        have hm : lk.length = m := by rw [hp.length_eq, hr.len]
        have HM := Lib.hid hm
        clear hb4 hc4 e3 c0 c1 c2 c3 hq hh hr hp hs hFr hoff hm HK E4
        go_cut [6] (fun v wx => ∃ A m c, v = .slice A m c ∧ Hid (Alike wa gq gm (k + 1) A m c wx))
        case first =>
          by_cases hk1 : kd = 1
          · subst hk1
            clear d0 d1 d2 d3
            go_wp2_with fail
            refine (pop_calls S gq gm lk w4 HQ.out HH.out (by omega)).mono ?_
            rintro e w6 hpop
            rcases hpop with ⟨rfl, rfl, he6⟩ | ⟨hne, rfl, hc6, l6, hq6, hh6, hp6⟩
            · obtain rfl : m = 0 := HM.out.symm
              have HA6 : Hid (Alike wa gq gm (k + 1) A' 0 c' w6) := Lib.hid ⟨⟨S, [], r, HQ.out.ext he6, HH.out, HR.out.ext he6, HP.out, HS.out, Nat.zero_le _, HFr.out, fun ad e => ⟨(HOff.out ad e).1, Nat.lt_of_lt_of_le (HOff.out ad e).2 he6.size⟩⟩, HE4.out.trans he6⟩
              have e7 := Ext.new w6 (.cells #[.int .u32 0, .int .u16 0, .int .i64 0] 32)
              clear he6
              go_wp2_with (refine RowSt.wpList_put 32 _ _ rfl rfl rfl w6.heap.size #[.int .u32 0, .int .u16 0, .int .i64 0] rfl rfl 32 _ (at_new _ _) (by kernel_rfl) rfl (by simp [Value.oneCell']) ?_; intro w7 hb7 hc7; have E7 := Lib.hid (e7.chg hc7 (fun q k => by have k : q = w6.heap.size := k; omega)); have c0 := blk_cell (i := 0) hb7 (Ext.refl _) rfl; have c1 := blk_cell (i := 1) hb7 (Ext.refl _) rfl; have c2 := blk_cell (i := 2) hb7 (Ext.refl _) rfl; clear hb7 hc7)
              go_quiet (fail)
              go_wp2_with fail
              go_meet
              exact ⟨A', 0, c', rfl, Lib.hid (by
                have hX : Ext w6 (w7.drewN nq) := E7.out.drewN _
                obtain ⟨S, l, r, a, b, c, d, e, f, g, i⟩ := HA6.out.st
                exact ⟨⟨S, l, r, a.ext hX, b, c.ext hX, d, e, f, g, fun ad q => ⟨(i ad q).1, Nat.lt_of_lt_of_le (i ad q).2 hX.size⟩⟩, HA6.out.ext.trans hX⟩)⟩
            · have hm0 : 0 < m := by have h1 := List.length_pos_iff.2 hne; have := HM.out; omega
              have hmn0 : ¬ m = 0 := by omega
              have hr0 : 0 < r.length := by rw [← HP.out.length_eq]; exact List.length_pos_iff.2 hne
              have hfirst : at_ lk 0 = at_ r 0 := first_left (k := 0) (by rw [List.drop_zero]; exact HP.out) HH.out HS.out hr0
              rw [hfirst] at hp6 ⊢
              have hpd : l6.Perm (r.drop 1) := rest_left (k := 0) (by rw [List.drop_zero]; exact HP.out) (nodup_of HP.out.symm (nodup_key HQ.out.nodup)) hr0 hp6
              have hr6 := HR.out.chg hc6 (fun ad e => (HOff.out ad e).1)
              have HR6 := Lib.hid hr6
              have HE6 := Lib.hid (HE4.out.chg hc6 HFr.out)
              have HQ6 := Lib.hid (And.intro hq6 (And.intro hh6 hpd))
              have HOff6 : Hid (∀ ad, A' = some ad → ¬ S ad.block ∧ ad.block < w6.heap.size) := Lib.hid fun ad e => ⟨(HOff.out ad e).1, Nat.lt_of_lt_of_le (HOff.out ad e).2 hc6.size⟩
              have hm1 : m ≤ 1000000 := by have := HM.out; omega
              obtain ⟨_, ad, hA, p0, p1, p2⟩ := hr6.at_ 0 _ (at_get hr0)
              subst hA
              rw [Nat.zero_mul] at p0 p1 p2
              have hz : ad.add 0 = ad := by unfold Addr.add; simp
              rw [hz] at p0 p1 p2
              obtain ⟨x, hx⟩ : ∃ x, x = at_ r 0 := ⟨_, rfl⟩
              rw [← hx] at p0 p1 p2 ⊢
              have e7 := Ext.new w6 (.cells #[.int .u32 0, .int .u16 0, .int .i64 0] 32)
              clear hx hc6 hq6 hh6 hp6 hpd hfirst hr6 hz hne hr0
              go_wp2_with (refine RowSt.wpList_put 32 _ _ rfl rfl rfl w6.heap.size #[.int .u32 x.o, .int .u16 x.s, .int .i64 x.g] rfl rfl 32 _ (at_new _ _) (by kernel_rfl) rfl (by simp [Value.oneCell']) ?_; intro w7 hb7 hc7)
              have E7 := Lib.hid (e7.chg hc7 (fun q k => by have k : q = w6.heap.size := k; omega))
              have t0 : ∀ W, Ext w7.drew W → W.cell? ⟨w6.heap.size, 0, none⟩ = some (.int .u32 x.o) := fun W hW => blk_cell (i := 0) hb7 (drew_ext hW) rfl
              have t1 : ∀ W, Ext w7.drew W → W.cell? ⟨w6.heap.size, 1, none⟩ = some (.int .u16 x.s) := fun W hW => blk_cell (i := 1) hb7 (drew_ext hW) rfl
              have t2 : ∀ W, Ext w7.drew W → W.cell? ⟨w6.heap.size, 2, none⟩ = some (.int .i64 x.g) := fun W hW => blk_cell (i := 2) hb7 (drew_ext hW) rfl
              replace p0 : ∀ W, Ext w7.drew W → W.cell? ad = some (.int .u32 x.o) := fun W hW => (E7.out.trans (drew_ext hW)).cell_ p0
              replace p1 : ∀ W, Ext w7.drew W → W.cell? ⟨ad.block, ad.off + 1, none⟩ = some (.int .u16 x.s) := fun W hW => (E7.out.trans (drew_ext hW)).cell_ p1
              replace p2 : ∀ W, Ext w7.drew W → W.cell? ⟨ad.block, ad.off + 2, none⟩ = some (.int .i64 x.g) := fun W hW => (E7.out.trans (drew_ext hW)).cell_ p2
              clear hb7 hc7 e7
              go_wp2_with fail
              refine Lex.wp_region_u [0, 1, 2, 3, 4, 5, 6, 7, 8, 9, 10, 11, 12, 13, 14, 15, 16, 17, 18, 19, 20, 21, 22, 23, 24] [] [(12, .const (jobA x))] (by kernel_rfl) (by kernel_rfl) (by repeat (first | exact Lex.st_nil | refine Lex.st_cons (by first | exact Lex.nums_st | exact Lex.const_st | exact Lex.such_st | exact Lex.row_st | exact Lex.rowE_st | exact Lex.litR_st | assumption) ?_)) ?_; simp only [Lex.pick, List.getElem?_cons_succ, List.getElem?_cons_zero, List.map_nil]
              repeat (first | (refine Lex.lexU_skip (by rfl) ?_; simp only [Act.put, List.setIfInBounds_toArray, List.set_cons_zero, List.set_cons_succ]) | (refine Lex.lexU_still (by rfl) (by rfl) (by first | exact Base.Ext.refl | exact Lex.Fill.refl) ?_; apply Exists.intro; refine ⟨fun W hW => ?_, ?_⟩; (have hE := Lex.ext_of_cls hW.1; have hE2 := Lex.ext_drew hE; clear hW; go_simp; try with_reducible rfl); simp only [Act.put, List.setIfInBounds_toArray, List.set_cons_zero, List.set_cons_succ]))
              refine Lex.lexU_loose (by rfl) (by rfl) (fun W hW => ?_) ?_
              · clear hW
                go_simp
                refine (to_calls x _).mono ?_
                rintro e w9 ⟨rfl, he9⟩
                exact ⟨_, rfl, rfl, he9, trivial⟩
              rintro v rfl
              simp only [Act.put, List.setIfInBounds_toArray, List.set_cons_zero, List.set_cons_succ]
              repeat (first | (refine Lex.lexU_skip (by rfl) ?_; simp only [Act.put, List.setIfInBounds_toArray, List.set_cons_zero, List.set_cons_succ]) | (refine Lex.lexU_still (by rfl) (by rfl) (by first | exact Base.Ext.refl | exact Lex.Fill.refl) ?_; apply Exists.intro; refine ⟨fun W hW => ?_, ?_⟩; (have hE := Lex.ext_of_cls hW.1; have hE2 := Lex.ext_drew hE; clear hW; go_simp; try with_reducible rfl); simp only [Act.put, List.setIfInBounds_toArray, List.set_cons_zero, List.set_cons_succ]))
              refine Lex.lexU_nil (fun W hW => ?_)
              have hE := Lib.hid (Lex.ext_drew hW.1)
              clear hW p0 p1 p2 t0 t1 t2
              refine Lex.onlyN_intro ?_
              have HA6 := Lib.hid (popped_alike (k := k + 1) HQ6.out.1 HQ6.out.2.1 HR6.out hm0 HQ6.out.2.2 HS.out (by have := HM.out; omega) HFr.out HE6.out (HOff6.out _ rfl) (E7.out.trans hE.out))
              obtain ⟨c1, hc1⟩ : ∃ c1, c1 = c' - 1 := ⟨_, rfl⟩
              by_cases hcc : 1 = c'
              · subst hcc
                go_wp2_with fail
                go_meet
                exact ⟨_, _, _, rfl, HA6⟩
              · rw [if_neg hcc] at HA6
                go_wp2_with fail
                go_meet
                exact ⟨_, _, _, rfl, HA6⟩
          by_cases hk2 : kd = 2
          · subst hk2
            go_wp2_with fail
            refine (index_calls A' m c' r y.o y.s w4 HR.out (by have := HM.out; omega)).mono ?_
            rintro e w5 ⟨rfl, rfl⟩
            go_wp2_with fail
            refine (to_calls y _).mono ?_
            rintro e w6 ⟨rfl, he6⟩
            have HQ6 := Lib.hid (HQ.out.ext he6)
            have HE6 := Lib.hid (HE4.out.trans he6)
            have HR6 := Lib.hid (HR.out.ext he6)
            have hb6 := he6.at_ B4.out
            have HX6 := Lib.hid he6
            have hfk := field_key y w6
            clear he6 d0 d1 d2 d3
            go_wp2_with fail
            clear hfk
            refine (drop_calls S gq gm lk y.o y.s w6 HQ6.out HH.out HOK.out.o0 HOK.out.o1 HOK.out.s0 HOK.out.s1 (by omega)).mono ?_
            rintro e w7 hd
            rcases hd with ⟨hpos, rfl, he7⟩ | ⟨hpos, rfl, hc7, l7, hq7, hh7, hp7⟩
            · have hposr := (pos_iff HP.out).1 hpos
              have hidx : idx r (y.o, y.s) = -1 := by unfold idx; rw [hposr]
              rw [hidx]
              have hb7 := he7.at_ hb6
              have d1 := blk_cell (i := 1) hb7 (Ext.refl _) rfl
              have d2 := blk_cell (i := 2) hb7 (Ext.refl _) rfl
              have HQ7 := Lib.hid (HQ6.out.ext he7)
              have HE7 := Lib.hid (HE6.out.trans he7)
              have HR7 := Lib.hid (HR6.out.ext he7)
              have HW : Hid (without r (y.o, y.s) = r) := Lib.hid (without_none hposr)
              clear hb6 hb7 he7 hpos hposr hidx
              go_wp2_with fail
              refine (rdrop_calls A' m c' r y.o y.s w7 HR7.out (by have := HM.out; omega)).mono ?_
              rintro e w8 ⟨A8, m8, c8, rfl, hr8⟩
              rw [HW.out] at hr8
              have HA := Lib.hid (rest_alike (k := k + 1) HQ7.out HH.out hr8 HRok.out HP.out HS.out (by omega) HFr.out HE7.out)
              clear hr8 d1 d2
              go_wp2_with fail
              go_meet
              exact ⟨A8, m8, c8, rfl, HA⟩
            · obtain ⟨i, hi⟩ : ∃ i, posOf r (y.o, y.s) = some i := by
                cases h : posOf r (y.o, y.s) with
                | some i => exact ⟨i, rfl⟩
                | none => exact absurd ((pos_iff HP.out).2 h) hpos
              have hidx : idx r (y.o, y.s) = (i : Int) := by unfold idx; rw [hi]
              rw [hidx]
              have hi0 : (0 : Int) ≤ i := by omega
              have hb7 := hc7.at_ hb6 (fun k => by have := HLt.out _ k; omega)
              have d1 := blk_cell (i := 1) hb7 (Ext.refl _) rfl
              have d2 := blk_cell (i := 2) hb7 (Ext.refl _) rfl
              have HQ7 := Lib.hid (And.intro hq7 (And.intro hh7 hp7))
              have HE7 := Lib.hid (HE6.out.chg hc7 HFr.out)
              have HR7 := Lib.hid (HR6.out.chg hc7 (fun ad e => (HOff.out ad e).1))
              clear hb6 hb7 hc7 hpos hidx hi hq7 hh7 hp7
              go_wp2_with fail
              refine (rdrop_calls A' m c' r y.o y.s w7 HR7.out (by have := HM.out; omega)).mono ?_
              rintro e w8 ⟨A8, m8, c8, rfl, hr8⟩
              have hp8 : l7.Perm (without r (y.o, y.s)) := HQ7.out.2.2.trans (HP.out.filter _)
              have HA := Lib.hid (rest_alike (k := k + 1) HQ7.out.1 HQ7.out.2.1 hr8 (fun x hx => HRok.out x (List.mem_filter.1 hx).1) hp8 (HS.out.sublist List.filter_sublist) (by
                have h1 := HQ7.out.2.2.length_eq
                have h2 : (without lk (y.o, y.s)).length ≤ lk.length := List.length_filter_le _ _
                omega) HFr.out HE7.out)
              clear hr8 hp8 d1 d2
              go_wp2_with fail
              go_meet
              exact ⟨A8, m8, c8, rfl, HA⟩
          go_wp2_with fail
          refine (to_calls y _).mono ?_
          rintro e w6 ⟨rfl, he6⟩
          have HQ6 := Lib.hid (HQ.out.ext he6)
          have HE6 := Lib.hid (HE4.out.trans he6)
          have HR6 := Lib.hid (HR.out.ext he6)
          have hb6 := he6.at_ B4.out
          have hs6 := he6.size
          have hw4 : wr.heap.size < w4.heap.size := Pack.lt_of_at B4.out
          clear he6 d0 d1 d2 d3
          go_wp2_with fail
          refine (put_calls S gq gm lk y w6 HQ6.out HH.out HOK.out (by omega)).mono ?_
          rintro e w7 ⟨rfl, l7, hq7, hh7, hp7, hc7⟩
          have hb7 := hc7.at_ hb6 (fun k => by have := HLt.out _ k; omega)
          have d1 := blk_cell (i := 1) hb7 (Ext.refl _) rfl
          have d2 := blk_cell (i := 2) hb7 (Ext.refl _) rfl
          have d3 := blk_cell (i := 3) hb7 (Ext.refl _) rfl
          have HQ7 := Lib.hid (And.intro hq7 (And.intro hh7 hp7))
          have HE7 := Lib.hid (HE6.out.chg hc7 HFr.out)
          have HR7 := Lib.hid (HR6.out.chg hc7 (fun ad e => (HOff.out ad e).1))
          have HF7 := Lib.hid (Plus.fresh (w' := w7) HFr.out HE6.out.size)
          clear hb6 hb7 hc7 hq7 hh7 hp7
          go_wp2_with fail
          refine (rput_calls A' m c' r y w7 HR7.out HOK.out (by have := HM.out; omega)).mono ?_
          rintro e w8 ⟨A8, m8, c8, r8, rfl, hr8, hp8, hs8⟩
          have hp9 : l7.Perm r8 := (HQ7.out.2.2.trans ((HP.out.filter _).cons y)).trans hp8.symm
          have HA := Lib.hid (rest_alike (k := k + 1) HQ7.out.1 HQ7.out.2.1 hr8 (fun x hx => by
            rcases List.mem_cons.1 (hp8.mem_iff.1 hx) with rfl | hx
            · exact HOK.out
            · exact HRok.out x (List.mem_filter.1 hx).1) hp9 (hs8 HS.out) (by
              have h1 := HQ7.out.2.2.length_eq
              have h2 : (without lk (UrgP.key y)).length ≤ lk.length := List.length_filter_le _ _
              rw [List.length_cons] at h1
              omega) HF7.out HE7.out)
          clear hr8 hp8 hs8 hp9 d1 d2 d3
          go_wp2_with fail
          go_meet
          exact ⟨A8, m8, c8, rfl, HA⟩
        case rest =>
          obtain ⟨A2, m2, c2, rfl, HA⟩ := hcut
          obtain ⟨S2, l2, r2, hq2, hh2, hr2, hp2, hs2, hl2, _, _⟩ := HA.out.st
          go_wp2_with fail
          refine (same_calls S2 gq gm l2 A2 m2 c2 r2 wc hq2 hh2 hr2 hp2 hs2 (by omega)).mono ?_
          rintro e w9 ⟨rfl, he9⟩
          have HA9 : Hid (Alike wa gq gm (k + 1) A2 m2 c2 w9) := Lib.hid (by
            obtain ⟨S, l, r, a, b, c, d, e, f, g, i⟩ := HA.out.st
            exact ⟨⟨S, l, r, a.ext he9, b, c.ext he9, d, e, f, g, fun ad q => ⟨(i ad q).1, Nat.lt_of_lt_of_le (i ad q).2 he9.size⟩⟩, HA.out.ext.trans he9⟩)
          clear he9 hq2 hh2 hr2 hp2 hs2 hl2 d0 d1 d2 d3
          go_wp2_with fail
          go_roundg (60 - (k + 1))
          case measure => omega
          case rel => exact ⟨A2, m2, c2, k + 1, rfl, by first | rfl | go_num, by omega, by omega, HA9⟩
      · have HF60 : Hid (Alike wa gq gm 60 A' m c' _) := Lib.hid (by obtain ⟨S, l, r, a, b, c, d, e, f, g⟩ := HK.out.st; exact ⟨⟨S, l, r, a, b, c, d, e, by omega, g⟩, HK.out.ext⟩)
        by_cases hkn' : k = n
        · subst hkn'
          clear hlt HK
          go_wp2_with fail
          go_meet
          exact ⟨A', m, c', rfl, HF60⟩
        · obtain rfl : k = 60 := by omega
          have h2 : 60 < n := by omega
          clear hlt HK
          go_wp2_with fail
          go_meet
          exact ⟨A', m, c', rfl, HF60⟩
  case rest =>
    obtain ⟨A', m, c', rfl, HA⟩ := hcut
    obtain ⟨S, lk, r, hq, hh, hr, hp, hs, hlk, _, _⟩ := HA.out.st
    have HE := Lib.hid HA.out.ext
    have HQ := Lib.hid hq
    have HR := Lib.hid hr
    have HP := Lib.hid hp
    have HM : Hid (m ≤ 1000000) := Lib.hid (by rw [← hr.len, ← hp.length_eq]; omega)
    clear hq hh hr hp hs HA HF HE0
    have a0 : wc.cell? ⟨w.heap.size, 0, none⟩ = some (.int .u32 j.o) := blk_cell (i := 0) B0.out HE.out rfl
    have a1 : wc.cell? ⟨w.heap.size, 1, none⟩ = some (.int .u16 j.s) := blk_cell (i := 1) B0.out HE.out rfl
    have a2 : wc.cell? ⟨w.heap.size, 2, none⟩ = some (.int .i64 j.g) := blk_cell (i := 2) B0.out HE.out rfl
    go_wp2_with fail
    refine (to_calls j _).mono ?_
    rintro e w20 ⟨rfl, he20⟩
    have E20 := Lib.hid (HE.out.trans he20)
    have HQ20 := Lib.hid (HQ.out.ext he20)
    have HR20 := Lib.hid (HR.out.ext he20)
    clear he20 a0 a1 a2
    have hfk := field_key j w20
    go_wp2_with fail
    clear hfk
    refine (get_calls S gq gm lk j.o j.s w20 HQ20.out HJ.out.o0 HJ.out.o1 HJ.out.s0 HJ.out.s1 (by omega)).mono ?_
    rintro e w21 ⟨he21, hg⟩
    obtain ⟨x, b, rfl, HG⟩ := found_alike HP.out (nodup_key HQ.out.nodup) hg
    have E21 := Lib.hid (E20.out.trans he21)
    have HR21 := Lib.hid (HR20.out.ext he21)
    have e22 := Ext.new w21 (.cells #[.int .u32 0, .int .u16 0, .int .i64 0] 32)
    clear he21 hg
    go_upto_region 26 with (refine RowSt.wpList_put 32 _ _ rfl rfl rfl w21.heap.size #[.int .u32 x.o, .int .u16 x.s, .int .i64 x.g] rfl rfl 32 _ (at_new _ _) (by kernel_rfl) rfl (by simp [Value.oneCell']) ?_; intro w22 hb22 hc22)
    have E22 := Lib.hid (E21.out.trans (e22.chg hc22 (fun q k => by have k : q = w21.heap.size := k; omega)))
    have HR22 := Lib.hid (HR21.out.ext (e22.chg hc22 (fun q k => by have k : q = w21.heap.size := k; omega)))
    have B22 := Lib.hid hb22
    clear hb22 hc22 e22
    have a0 : w22.cell? ⟨w.heap.size, 0, none⟩ = some (.int .u32 j.o) := blk_cell (i := 0) B0.out E22.out rfl
    have a1 : w22.cell? ⟨w.heap.size, 1, none⟩ = some (.int .u16 j.s) := blk_cell (i := 1) B0.out E22.out rfl
    go_wp2_with fail
    refine (index_calls A' m c' r j.o j.s w22 HR22.out HM.out).mono ?_
    rintro e w23 ⟨rfl, rfl⟩
    clear a0 a1
    obtain ⟨kx, hkx⟩ : ∃ kx, kx = idx r (j.o, j.s) := ⟨_, rfl⟩
    rw [← hkx]
    have HKX := Lib.hid hkx
    clear hkx
    go_upto_region 27 with fail
    go_cut [156] (fun v wx => v = .bool false ∧ Hid (Ext wa wx))
    case first =>
      rcases HG.out with ⟨rfl, rfl, hpos⟩ | ⟨rfl, i, hpos, rfl⟩
      · have hidx : idx r (j.o, j.s) = -1 := by unfold idx; rw [hpos]
        rw [hidx] at HKX
        have hk := HKX.out
        subst hk
        have c0 := blk_cell (i := 0) B22.out (Ext.refl _) rfl
        have c1 := blk_cell (i := 1) B22.out (Ext.refl _) rfl
        have c2 := blk_cell (i := 2) B22.out (Ext.refl _) rfl
        clear hpos hidx
        go_quiet (fail)
        go_wp2_with fail
        go_meet
        exact ⟨rfl, Lib.hid (E22.out.trans ((Ext.refl _).drewN _))⟩
      · have hidx : idx r (j.o, j.s) = i := by unfold idx; rw [hpos]
        rw [hidx] at HKX
        have hk := HKX.out
        subst hk
        have him := (posOf_some hpos).1
        obtain ⟨_, ad, hA, p0, p1, p2⟩ := HR22.out.at_ i _ (at_get him)
        subst hA
        rw [HR22.out.len] at him
        have hi0 : (0 : Int) ≤ i := by omega
        obtain ⟨x, hx⟩ : ∃ x, x = at_ r i := ⟨_, rfl⟩
        rw [← hx] at p0 p1 p2 B22 ⊢
        have t0 : ∀ W, Ext w22.drew W → W.cell? ⟨w21.heap.size, 0, none⟩ = some (.int .u32 x.o) := fun W hW => blk_cell (i := 0) B22.out (drew_ext hW) rfl
        have t1 : ∀ W, Ext w22.drew W → W.cell? ⟨w21.heap.size, 1, none⟩ = some (.int .u16 x.s) := fun W hW => blk_cell (i := 1) B22.out (drew_ext hW) rfl
        have t2 : ∀ W, Ext w22.drew W → W.cell? ⟨w21.heap.size, 2, none⟩ = some (.int .i64 x.g) := fun W hW => blk_cell (i := 2) B22.out (drew_ext hW) rfl
        replace p0 : ∀ W, Ext w22.drew W → W.cell? (ad.add (i * 3)) = some (.int .u32 x.o) := fun W hW => (drew_ext hW).cell_ p0
        replace p1 : ∀ W, Ext w22.drew W → W.cell? ⟨(ad.add (i * 3)).block, (ad.add (i * 3)).off + 1, none⟩ = some (.int .u16 x.s) := fun W hW => (drew_ext hW).cell_ p1
        replace p2 : ∀ W, Ext w22.drew W → W.cell? ⟨(ad.add (i * 3)).block, (ad.add (i * 3)).off + 2, none⟩ = some (.int .i64 x.g) := fun W hW => (drew_ext hW).cell_ p2
        clear hx hpos hidx
        refine Lex.wp_region_u [0, 1, 2, 3, 4, 5, 6, 7, 8, 9, 10, 11, 12, 13, 14, 15, 16, 17, 18, 19, 20, 21, 22, 23, 24] [] [(12, .const (jobA x))] (by kernel_rfl) (by kernel_rfl) (by repeat (first | exact Lex.st_nil | refine Lex.st_cons (by first | exact Lex.nums_st | exact Lex.const_st | exact Lex.such_st | exact Lex.row_st | exact Lex.rowE_st | exact Lex.litR_st | assumption) ?_)) ?_; simp only [Lex.pick, List.getElem?_cons_succ, List.getElem?_cons_zero, List.map_nil]
        repeat (first | (refine Lex.lexU_skip (by rfl) ?_; simp only [Act.put, List.setIfInBounds_toArray, List.set_cons_zero, List.set_cons_succ]) | (refine Lex.lexU_still (by rfl) (by rfl) (by first | exact Base.Ext.refl | exact Lex.Fill.refl) ?_; apply Exists.intro; refine ⟨fun W hW => ?_, ?_⟩; (have hE := Lex.ext_of_cls hW.1; have hE2 := Lex.ext_drew hE; clear hW; go_simp; try with_reducible rfl); simp only [Act.put, List.setIfInBounds_toArray, List.set_cons_zero, List.set_cons_succ]))
        refine Lex.lexU_loose (by rfl) (by rfl) (fun W hW => ?_) ?_
        · clear hW
          go_simp
          refine (to_calls x _).mono ?_
          rintro e w9 ⟨rfl, he9⟩
          exact ⟨_, rfl, rfl, he9, trivial⟩
        rintro v rfl
        simp only [Act.put, List.setIfInBounds_toArray, List.set_cons_zero, List.set_cons_succ]
        repeat (first | (refine Lex.lexU_skip (by rfl) ?_; simp only [Act.put, List.setIfInBounds_toArray, List.set_cons_zero, List.set_cons_succ]) | (refine Lex.lexU_still (by rfl) (by rfl) (by first | exact Base.Ext.refl | exact Lex.Fill.refl) ?_; apply Exists.intro; refine ⟨fun W hW => ?_, ?_⟩; (have hE := Lex.ext_of_cls hW.1; have hE2 := Lex.ext_drew hE; clear hW; go_simp; try with_reducible rfl); simp only [Act.put, List.setIfInBounds_toArray, List.set_cons_zero, List.set_cons_succ]))
        refine Lex.lexU_nil (fun W hW => ?_)
        have hE := Lib.hid (Lex.ext_drew hW.1)
        clear hW p0 p1 p2 t0 t1 t2
        refine Lex.onlyN_intro ?_
        go_wp2_with fail
        go_meet
        exact ⟨rfl, Lib.hid (E22.out.trans hE.out)⟩
    case rest =>
      obtain ⟨rfl, E29⟩ := hcut
      clear HQ HR HP HQ20 HR20 E20 E21 HR21 E22 HR22 B22 HG HKX HE
      have a0 : wc.cell? ⟨w.heap.size, 0, none⟩ = some (.int .u32 j.o) := blk_cell (i := 0) B0.out E29.out rfl
      have a1 : wc.cell? ⟨w.heap.size, 1, none⟩ = some (.int .u16 j.s) := blk_cell (i := 1) B0.out E29.out rfl
      have a2 : wc.cell? ⟨w.heap.size, 2, none⟩ = some (.int .i64 j.g) := blk_cell (i := 2) B0.out E29.out rfl
      go_wp2_with fail
      refine (to_calls j _).mono ?_
      rintro e w30 ⟨rfl, he30⟩
      have E30 := Lib.hid (E29.out.trans he30)
      clear he30 a0 a1 a2
      go_wp2_with fail
      refine (put_nil j _).mono ?_
      rintro e w31 ⟨rfl, he31⟩
      have E31 := Lib.hid (E30.out.trans he31)
      clear he31
      have hb31 := E31.out.at_ B0.out
      have E31b := Lib.hid (E31.out.trans (Ext.new w31 (.cells #[.slice none 0 0, .map none] 53)))
      have hlt31 : w.heap.size < w31.heap.size := Pack.lt_of_at hb31
      have hne31 : w.heap.size ≠ w31.heap.size := by omega
      have b0 : (w31.alloc (.cells #[.slice none 0 0, .map none] 53)).cell? ⟨w.heap.size, 0, none⟩ = some (.int .u32 j.o) := blk_cell (i := 0) B0.out E31b.out rfl
      have b1 : (w31.alloc (.cells #[.slice none 0 0, .map none] 53)).cell? ⟨w.heap.size, 1, none⟩ = some (.int .u16 j.s) := blk_cell (i := 1) B0.out E31b.out rfl
      have b2 : (w31.alloc (.cells #[.slice none 0 0, .map none] 53)).cell? ⟨w.heap.size, 2, none⟩ = some (.int .i64 j.g) := blk_cell (i := 2) B0.out E31b.out rfl
      have a0 : w31.cell? ⟨w.heap.size, 0, none⟩ = some (.int .u32 j.o) := blk_cell (i := 0) B0.out E31.out rfl
      have a1 : w31.cell? ⟨w.heap.size, 1, none⟩ = some (.int .u16 j.s) := blk_cell (i := 1) B0.out E31.out rfl
      have a2 : w31.cell? ⟨w.heap.size, 2, none⟩ = some (.int .i64 j.g) := blk_cell (i := 2) B0.out E31.out rfl
      clear hb31
      go_wp2_with fail
      refine (to_calls j _).mono ?_
      rintro e w32 ⟨rfl, he32⟩
      have z32 : ZeroQ w32 w31.heap.size := he32.at_ (at_new _ _)
      have E32 := Lib.hid (E31b.out.trans he32)
      clear he32 a0 a1 a2 b0 b1 b2
      go_wp2_with fail
      refine (put_zero w31.heap.size j w32 z32).mono ?_
      rintro e w33 ⟨rfl, he33⟩
      have E33 := Lib.hid (E32.out.trans he33)
      clear he33 z32
      have a0 : w33.cell? ⟨w.heap.size, 0, none⟩ = some (.int .u32 j.o) := blk_cell (i := 0) B0.out E33.out rfl
      have a1 : w33.cell? ⟨w.heap.size, 1, none⟩ = some (.int .u16 j.s) := blk_cell (i := 1) B0.out E33.out rfl
      have a2 : w33.cell? ⟨w.heap.size, 2, none⟩ = some (.int .i64 j.g) := blk_cell (i := 2) B0.out E33.out rfl
      go_wp2_with fail
      refine (to_calls j _).mono ?_
      rintro e w34 ⟨rfl, he34⟩
      have E34 := Lib.hid (E33.out.trans he34)
      clear he34 a0 a1 a2
      have hfk := field_key j w34
      go_wp2_with fail
      clear hfk
      refine (get_nil j.o j.s _).mono ?_
      rintro e w35 ⟨rfl, he35⟩
      have E35 := Lib.hid (E34.out.trans he35)
      clear he35
      go_wp2_with (refine RowSt.wpList_put 32 _ _ rfl rfl rfl w35.heap.size #[.int .u32 0, .int .u16 0, .int .i64 0] rfl rfl 32 _ (at_new _ _) (by kernel_rfl) rfl (by simp [Value.oneCell']) ?_; intro w36 hb36 hc36)
      have E36 := Lib.hid (E35.out.trans ((Ext.new w35 (.cells #[.int .u32 0, .int .u16 0, .int .i64 0] 32)).chg hc36 (fun q k => by have k : q = w35.heap.size := k; omega)))
      clear hb36 hc36
      go_wp2_with fail
      refine (first_nil _).mono ?_
      rintro e w37 ⟨rfl, he37⟩
      have E37 := Lib.hid (E36.out.trans he37)
      clear he37
      go_wp2_with (refine RowSt.wpList_put 32 _ _ rfl rfl rfl w37.heap.size #[.int .u32 0, .int .u16 0, .int .i64 0] rfl rfl 32 _ (at_new _ _) (by kernel_rfl) rfl (by simp [Value.oneCell']) ?_; intro w38 hb38 hc38)
      have E38 := Lib.hid (E37.out.trans ((Ext.new w37 (.cells #[.int .u32 0, .int .u16 0, .int .i64 0] 32)).chg hc38 (fun q k => by have k : q = w37.heap.size := k; omega)))
      clear hb38 hc38
      go_wp2_with fail
      refine (pop_none _ _ (.inl rfl)).mono ?_
      rintro e w39 ⟨rfl, he39⟩
      have E39 := Lib.hid (E38.out.trans he39)
      clear he39
      go_wp2_with (refine RowSt.wpList_put 32 _ _ rfl rfl rfl w39.heap.size #[.int .u32 0, .int .u16 0, .int .i64 0] rfl rfl 32 _ (at_new _ _) (by kernel_rfl) rfl (by simp [Value.oneCell']) ?_; intro w40 hb40 hc40)
      have E40 := Lib.hid (E39.out.trans ((Ext.new w39 (.cells #[.int .u32 0, .int .u16 0, .int .i64 0] 32)).chg hc40 (fun q k => by have k : q = w39.heap.size := k; omega)))
      clear hb40 hc40
      go_wp2_with fail
      refine (pop_none _ _ (.inr ⟨_, rfl, at_new _ _⟩)).mono ?_
      rintro e w41 ⟨rfl, he41⟩
      have E41 := Lib.hid ((E40.out.trans (Ext.new _ _)).trans he41)
      clear he41
      go_wp2_with (refine RowSt.wpList_put 32 _ _ rfl rfl rfl w41.heap.size #[.int .u32 0, .int .u16 0, .int .i64 0] rfl rfl 32 _ (at_new _ _) (by kernel_rfl) rfl (by simp [Value.oneCell']) ?_; intro w42 hb42 hc42; have E42 := Lib.hid (E41.out.trans ((Ext.new w41 (.cells #[.int .u32 0, .int .u16 0, .int .i64 0] 32)).chg hc42 (fun q k => by have k : q = w41.heap.size := k; omega))); clear hb42 hc42; have a0 : w42.cell? ⟨w.heap.size, 0, none⟩ = some (.int .u32 j.o) := blk_cell (i := 0) B0.out E42.out rfl; have a1 : w42.cell? ⟨w.heap.size, 1, none⟩ = some (.int .u16 j.s) := blk_cell (i := 1) B0.out E42.out rfl; have a2 : w42.cell? ⟨w.heap.size, 2, none⟩ = some (.int .i64 j.g) := blk_cell (i := 2) B0.out E42.out rfl)
      go_wp2_with fail
      refine (to_calls j _).mono ?_
      rintro e w43 ⟨rfl, he43⟩
      have E43 := Lib.hid (E42.out.trans he43)
      clear he43 a0 a1 a2
      have hfk := field_key j w43
      go_wp2_with fail
      clear hfk
      refine (drop_nil j.o j.s _).mono ?_
      rintro e w44 ⟨rfl, he44⟩
      have E44 := Lib.hid (E43.out.trans he44)
      clear he44
      have hb44 := E44.out.at_ B0.out
      have E44b := Lib.hid (E44.out.trans (Ext.new w44 (.cells #[.slice none 0 0, .map none] 53)))
      have hlt44 : w.heap.size < w44.heap.size := Pack.lt_of_at hb44
      have hne44 : w.heap.size ≠ w44.heap.size := by omega
      have b0 : (w44.alloc (.cells #[.slice none 0 0, .map none] 53)).cell? ⟨w.heap.size, 0, none⟩ = some (.int .u32 j.o) := blk_cell (i := 0) B0.out E44b.out rfl
      have b1 : (w44.alloc (.cells #[.slice none 0 0, .map none] 53)).cell? ⟨w.heap.size, 1, none⟩ = some (.int .u16 j.s) := blk_cell (i := 1) B0.out E44b.out rfl
      have b2 : (w44.alloc (.cells #[.slice none 0 0, .map none] 53)).cell? ⟨w.heap.size, 2, none⟩ = some (.int .i64 j.g) := blk_cell (i := 2) B0.out E44b.out rfl
      have a0 : w44.cell? ⟨w.heap.size, 0, none⟩ = some (.int .u32 j.o) := blk_cell (i := 0) B0.out E44.out rfl
      have a1 : w44.cell? ⟨w.heap.size, 1, none⟩ = some (.int .u16 j.s) := blk_cell (i := 1) B0.out E44.out rfl
      have a2 : w44.cell? ⟨w.heap.size, 2, none⟩ = some (.int .i64 j.g) := blk_cell (i := 2) B0.out E44.out rfl
      clear hb44
      go_wp2_with fail
      refine (to_calls j _).mono ?_
      rintro e w45 ⟨rfl, he45⟩
      have z45 : ZeroQ w45 w44.heap.size := he45.at_ (at_new _ _)
      have E45 := Lib.hid (E44b.out.trans he45)
      clear he45 a0 a1 a2 b0 b1 b2
      have hfk := field_key j w45
      go_wp2_with fail
      clear hfk
      refine (drop_zero w44.heap.size j.o j.s w45 z45 HJ.out.o0 HJ.out.o1 HJ.out.s0 HJ.out.s1).mono ?_
      rintro e w46 ⟨rfl, he46⟩
      have E46 := Lib.hid (E45.out.trans he46)
      clear he46 z45
      go_wp2_with fail
      refine (len_nil _).mono ?_
      rintro e w47 ⟨rfl, rfl⟩
      go_wp2_with fail
      refine (all_nil _).mono ?_
      rintro e w48 ⟨rfl, rfl⟩
      go_wp2_with fail
      refine (awake_calls _).mono ?_
      rintro e w49 ⟨rfl, he49⟩
      have E49 := Lib.hid (E46.out.trans he49)
      clear he49
      go_wp2_with fail
      go_ret
      exact ⟨rfl, E0.out.trans E49.out⟩
theorem plays_row (A : Option Addr) (n c : Nat) (l : List Act) (d : rjF.T) (w : World) (hl : (Shape.Sh.sl actS).ok w (A, n, c, l)) (hd : rjF.ok w d) :
    Calls Try.prog 4 #[.slice A n c, .agg (rjF.cells d).toArray] w fun e w' => e = .returned (.bool true) ∧ Ext w w' := by
  obtain ⟨o, s, g, u⟩ := d
  obtain ⟨k0, k1, k2, _⟩ : (Lit.int .u32 o).wf = true ∧ (Lit.int .u16 s).wf = true ∧ (Lit.int .i64 g).wf = true ∧ True := hd
  exact plays_walk A n c l ⟨o, s, g⟩ w hl ⟨(wf_u32 k0).1, (wf_u32 k0).2, (wf_u16 k1).1, (wf_u16 k1).2, (wf_i64 k2).1, (wf_i64 k2).2⟩
end Go.Proofs.Ytipmkddcdnbihaa.UrgW
