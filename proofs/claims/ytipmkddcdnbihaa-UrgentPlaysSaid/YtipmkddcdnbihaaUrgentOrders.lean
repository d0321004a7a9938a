/- UrgentOrders, walked. -/
import Derived.Test.YtipmkddcdnbihaaUrgJ
import Derived.Test.YtipmkddcdnbihaaShape
import Derived.Deep.DeepCutAuto
import Derived.Deep.CutBlock
import Derived.Deep.QuietTactic
import Derived.BigQuiet
namespace Go.Proofs.Ytipmkddcdnbihaa.UrgW
open Go.RowKit Base Step MapIs Vec Shape
open UrgP Urg
abbrev rjS : Shape.Sh := .st (.cons (.int .u32) (.cons (.int .u16) (.cons (.int .i64) .nil)))
abbrev RJ := rjS.T
def jobOf (x : RJ) : Job := ⟨x.1, x.2.1, x.2.2.1⟩
theorem rj_at {w : World} {A : Option Addr} {n c : Nat} {l : List RJ} (h : (Shape.Sh.sl rjS).ok w (A, n, c, l)) {i : Nat} (hi : i < n) : ∃ ad x, A = some ad ∧ l[i]? = some x ∧ Ok (jobOf x) ∧ w.cell? (ad.add (i * 3)) = some (.int .u32 (jobOf x).o) ∧
    w.cell? ⟨(ad.add (i * 3)).block, (ad.add (i * 3)).off + 1, none⟩ = some (.int .u16 (jobOf x).s) ∧ w.cell? ⟨(ad.add (i * 3)).block, (ad.add (i * 3)).off + 2, none⟩ = some (.int .i64 (jobOf x).g) := by
  obtain ⟨h1, h2, h3, h4, h5⟩ : l.length = n ∧ n ≤ c ∧ c ≤ maxLen ∧ (A = none → c = 0) ∧ ∀ i (x : RJ), l[i]? = some x → rjS.ok w x ∧ ∃ ad, A = some ad ∧ ∀ j u, (rjS.cells x)[j]? = some u → w.cell? (ad.add (i * rjS.size + j)) = some u := h
  obtain ⟨x, hx⟩ : ∃ x, l[i]? = some x := ⟨_, List.getElem?_eq_getElem (by omega)⟩
  obtain ⟨ho, ad, rfl, hc⟩ := h5 i x hx
  have hsz : rjS.size = 3 := rfl
  rw [hsz] at hc
  obtain ⟨o, s, g, u⟩ := x
  obtain ⟨k0, k1, k2, _⟩ : (Lit.int .u32 o).wf = true ∧ (Lit.int .u16 s).wf = true ∧ (Lit.int .i64 g).wf = true ∧ True := ho
  have e0 := hc 0 (.int .u32 o) rfl
  have e1 := hc 1 (.int .u16 s) rfl
  have e2 := hc 2 (.int .i64 g) rfl
  rw [← add_of_add] at e1 e2
  have b0 := wf_u32 k0
  have b1 := wf_u16 k1
  have b2 := wf_i64 k2
  exact ⟨ad, _, rfl, hx, ⟨b0.1, b0.2, b1.1, b1.2, b2.1, b2.2⟩, e0, e1, e2⟩
/-- The queue, filled. -/
def Filled (w : World) (gq gm k : Nat) (wr : World) : Prop := ∃ S l, QueAt wr S gq gm l ∧ UrgP.Heap l ∧ l.length ≤ k ∧ Fresh w S ∧ Ext w wr
theorem filled_put {w : World} {gq gm k : Nat} {S : Nat → Prop} {l l' : List Job} {j : Job} {wr w' : World} (hk : l.length ≤ k) (hF : Fresh w S) (hE : Ext w wr) (hq : QueAt w' (Plus S wr w') gq gm l') (hh : UrgP.Heap l') (hp : l'.Perm (j :: without l (UrgP.key j))) (hc : Chg S wr w') : Filled w gq gm (k + 1) w' := by
  refine ⟨_, l', hq, hh, ?_, Plus.fresh hF hE.size, hE.chg hc hF⟩
  have h1 := hp.length_eq
  have h2 : (without l (UrgP.key j)).length ≤ l.length := List.length_filter_le _ _
  rw [List.length_cons] at h1
  omega
/-- The queue, popped k times: what is left is what comes behind. -/
structure Left (w w1 : World) (S : Nat → Prop) (gq gm : Nat) (A : Option Addr) (c : Nat) (m : List Job) (k : Nat) (wr : World) : Prop where
  q : ∃ l, QueAt wr S gq gm l ∧ UrgP.Heap l ∧ l.Perm (m.drop k)
  row : Own wr (fun i => w1.heap.size ≤ i) 32 3 (.slice A m.length c) m.length (m.flatMap jobV)
  ext : Ext w wr
theorem nodup_of {l m : List Job} (h : l.Perm m) (hn : (m.map UrgP.key).Nodup) : (l.map UrgP.key).Nodup := (h.map _).nodup_iff.2 hn
/-- The first of a heap of what is left. -/
theorem first_left {l m : List Job} {k : Nat} (hp : l.Perm (m.drop k)) (hh : UrgP.Heap l) (hs : Sorted m) (hk : k < m.length) : at_ l 0 = at_ m k := by
  have hd : m.drop k = at_ m k :: m.drop (k + 1) := by
    rw [List.drop_eq_getElem_cons hk, at_eq (List.getElem?_eq_getElem hk)]
  rw [hd] at hp
  have hl : 0 < l.length := by have := hp.length_eq; simp at this; omega
  have h1 := hp.mem_iff.1 (at_mem hl)
  rcases List.mem_cons.1 h1 with h1 | h1
  · exact h1
  · obtain ⟨i, hi, he⟩ := List.getElem_of_mem (hp.mem_iff.2 List.mem_cons_self)
    have h2 := hh.min i hi
    rw [at_eq (by rw [List.getElem?_eq_getElem hi, he])] at h2
    have hs2 : Sorted (m.drop k) := hs.sublist (List.drop_sublist k m)
    rw [hd] at hs2
    have h3 := (List.pairwise_cons.1 hs2).1 _ h1
    rw [h3] at h2
    cases h2
theorem rest_left {l l' m : List Job} {k : Nat} (hp : l.Perm (m.drop k)) (hn : (m.map UrgP.key).Nodup) (hk : k < m.length) (hp' : l'.Perm (without l (UrgP.key (at_ m k)))) : l'.Perm (m.drop (k + 1)) := by
  have hd : m.drop k = at_ m k :: m.drop (k + 1) := by
    rw [List.drop_eq_getElem_cons hk, at_eq (List.getElem?_eq_getElem hk)]
  refine hp'.trans ((hp.filter _).trans ?_)
  have hn2 : ((m.drop k).map UrgP.key).Nodup := hn.sublist ((List.drop_sublist k m).map _)
  rw [hd, List.map_cons, List.nodup_cons] at hn2
  rw [hd, List.filter_cons_of_neg (by simp), List.filter_eq_self.2]
  intro x hx
  exact decide_eq_true fun e => hn2.1 (e ▸ List.mem_map.2 ⟨x, hx, rfl⟩)
set_option maxRecDepth 100000 in
set_option maxHeartbeats 4000000 in
theorem orders_walk (A : Option Addr) (n c : Nat) (l : List RJ) (w : World) (hl : (Shape.Sh.sl rjS).ok w (A, n, c, l)) :
    Calls Try.prog 3 #[.slice A n c] w fun e w' => e = .returned (.bool true) ∧ Ext w w' := by
  have HL := Lib.hid hl
  have hn : n ≤ 9223372036854775807 := by have h1 := hl.2.1; have h2 := hl.2.2.1; simp only [maxLen] at h2; exact Nat.le_trans h1 (by omega)
  clear hl
  go_enter Try.func3, Try.ntmps3
  go_wp2_with fail
  refine (awake_calls _).mono ?_
  rintro e w0 ⟨rfl, he0⟩
  have HE0 := Lib.hid he0
  clear he0
  go_wp2_with fail
  refine (new_calls _).mono ?_
  rintro e w1 ⟨gq, gm, rfl, hq1, he1⟩
  have HF : Hid (Filled w gq gm 0 w1) := Lib.hid ⟨_, [], hq1, heap_nil, Nat.le_refl _, fun q hq => hq.elim (fun k => k.elim) (fun k => Nat.le_trans HE0.out.size k.1), HE0.out.trans he1⟩
  clear hq1 he1
  go_upto_block 0 with fail
  go_cut [] (fun wx => Hid (Filled w gq gm 60 wx))
  case first =>
    go_wp2_with fail
    go_loopw [4] (fun i wr => ∃ k : Nat, i = .int .i64 k ∧ k ≤ n ∧ k ≤ 60 ∧ Hid (Filled w gq gm k wr)) (fun i _ => 60 - (intOf i).toNat)
    case atStart => exact ⟨0, rfl, Nat.zero_le _, by omega, HF⟩
    case round =>
      clear HF
      obtain ⟨k, rfl, hkn, hk60, HK⟩ := hrel
      by_cases hlt : k < n ∧ k < 60
      · obtain ⟨h1, h2⟩ := hlt
        obtain ⟨S, lk, hq, hh, hlen, hF, hE⟩ := HK.out
        obtain ⟨ad, x, rfl, hx, hok, c0, c1, c2⟩ := rj_at HL.out h1
        replace c0 := hE.cell_ c0
        replace c1 := hE.cell_ c1
        replace c2 := hE.cell_ c2
        have HQ := Lib.hid hq
        have HH := Lib.hid hh
        have HFr := Lib.hid hF
        have HE := Lib.hid hE
        have HOK := Lib.hid hok
        have HX := Lib.hid hx
        clear hq hh hF hE hok HK hx
        obtain ⟨j, hj⟩ : ∃ j, j = jobOf x := ⟨_, rfl⟩
        rw [← hj] at c0 c1 c2 HOK
        clear hj
        go_wp2_with fail
        refine (to_calls j _).mono ?_
        rintro e w4 ⟨rfl, he4⟩
        have HQ4 := Lib.hid (HQ.out.ext he4)
        have HE4 := Lib.hid (HE.out.trans he4)
        clear he4 c0 c1 c2
        go_wp2_with fail
        refine (put_calls S gq gm lk j w4 HQ4.out HH.out HOK.out (by omega)).mono ?_
        rintro e w5 ⟨rfl, l5, hq5, hh5, hp5, hc5⟩
        have HF5 := Lib.hid (filled_put hlen HFr.out HE4.out hq5 hh5 hp5 hc5)
        clear hq5 hh5 hp5 hc5
        go_wp2_with fail
        go_roundw
        case rel => exact ⟨k + 1, by go_num, by omega, by omega, HF5⟩
        case measure => (simp [intOf]; try omega)
      · have HF60 : Hid (Filled w gq gm 60 _) := Lib.hid (by obtain ⟨S, lk, a, b, c, d⟩ := HK.out; exact ⟨S, lk, a, b, Nat.le_trans c hk60, d⟩)
        by_cases hkn' : k = n
        · subst hkn'
          clear hlt HK
          go_wp2_with fail
          go_meet
          exact HF60
        · obtain rfl : k = 60 := by omega
          have h2 : 60 < n := by omega
          clear hlt HK
          go_wp2_with fail
          go_meet
          exact HF60
  case rest =>
    rename_i wc
    obtain ⟨S, l0, hq, hh, hlen, hF, hE⟩ := hcut.out
    have HQ := Lib.hid hq
    have HH := Lib.hid hh
    have HFr := Lib.hid hF
    have HE := Lib.hid hE
    clear hq hh hF hE hcut HF
    go_wp2_with fail
    refine (all_calls S gq gm l0 wc HQ.out (by omega)).mono ?_
    rintro e w2 ⟨he2, A1, c1, m, rfl, hp, hs, hown⟩
    have hml : m.length = l0.length := hp.length_eq
    rw [← hml] at hown ⊢
    have HQ2 := Lib.hid (HQ.out.ext he2)
    have HO2 := Lib.hid hown
    have HE2 := Lib.hid (HE.out.trans he2)
    have HP := Lib.hid hp
    have HS := Lib.hid hs
    have HMK := Lib.hid (nodup_of hp (nodup_key HQ.out.nodup))
    have hm60 : m.length ≤ 60 := by omega
    have HML := Lib.hid hml
    clear he2 hown hp hs hml
    go_wp2_with fail
    refine (len_calls S gq gm l0 w2 HQ2.out).mono ?_
    rintro e w3 ⟨rfl, rfl⟩
    rw [← HML.out]
    go_wp2_with fail
    have HLeft : Hid (Left w wc S gq gm A1 c1 m 0 w2) := Lib.hid ⟨⟨l0, HQ2.out, HH.out, by rw [List.drop_zero]; exact HP.out.symm⟩, HO2.out, HE2.out⟩
    go_loopg [7] m.length (fun left i wr => ∃ k : Nat, i = .int .i64 k ∧ k + left = m.length ∧ Hid (Left w wc S gq gm A1 c1 m k wr))
    case atStart => exact ⟨0, rfl, by omega, HLeft⟩
    case round =>
      clear HLeft
      obtain ⟨k, rfl, hkm, HK⟩ := hrel
      by_cases hlt : k < m.length
      · obtain ⟨lk, hqk, hhk, hpk⟩ := HK.out.q
        have hne : lk ≠ [] := fun e => by have := hpk.length_eq; rw [e] at this; simp at this; omega
        have hfirst := first_left hpk hhk HS.out hlt
        have hlk : lk.length ≤ 1000000 := by have := hpk.length_eq; simp at this; omega
        have HQK := Lib.hid (And.intro hqk hhk)
        have HPK := Lib.hid hpk
        clear hqk hhk hpk
        go_wp2_with fail
        refine (pop_calls S gq gm lk _ HQK.out.1 HQK.out.2 hlk).mono ?_
        rintro e w6 hpop
        rcases hpop with ⟨h0, _⟩ | ⟨_, rfl, hc6, l6, hq6, hh6, hp6⟩
        · exact absurd h0 hne
        rw [hfirst] at hp6 ⊢
        have ho6 := HK.out.row.chg hc6 (fun q hq hs => by have := HQ.out.lt q hs; omega)
        have he6 : Ext w w6 := HK.out.ext.chg hc6 HFr.out
        have HLeft6 : Hid (Left w wc S gq gm A1 c1 m (k + 1) w6) := Lib.hid ⟨⟨l6, hq6, hh6, rest_left HPK.out HMK.out hlt hp6⟩, ho6, he6⟩
        have e7 := Ext.new w6 (.cells #[.int .u32 0, .int .u16 0, .int .i64 0] 32)
        obtain ⟨g, rfl, p0, p1, p2⟩ := row_cell ho6 (at_get hlt)
        obtain ⟨j, hj⟩ : ∃ j, j = at_ m k := ⟨_, rfl⟩
        rw [← hj] at p0 p1 p2 ⊢
        have HJ := Lib.hid hj
        have hkn : ¬ m.length ≤ k := by omega
        clear hj hne hfirst hc6 hq6 hh6 hp6 HQK HPK
        by_cases hk0 : k = 0
        · subst hk0
          have hm0 : ¬ m = [] := fun e => by rw [e] at hlt; simp at hlt
          clear ho6 he6
          go_wp2_with (refine RowSt.wpList_put 32 _ _ rfl rfl rfl w6.heap.size #[.int .u32 j.o, .int .u16 j.s, .int .i64 j.g] rfl rfl 32 _ (at_new _ _) (by kernel_rfl) rfl (by simp [Value.oneCell']) ?_; intro w7 hb7 hc7; have E7 := Lib.hid (e7.chg hc7 (fun q k => by have k : q = w6.heap.size := k; omega)); have c0 := blk_cell (i := 0) hb7 (Ext.refl _) rfl; have c1 := blk_cell (i := 1) hb7 (Ext.refl _) rfl; have c2 := blk_cell (i := 2) hb7 (Ext.refl _) rfl; replace p0 := E7.out.cell_ p0; replace p1 := E7.out.cell_ p1; replace p2 := E7.out.cell_ p2; clear hb7 hc7)
          go_quiet (fail)
          go_wp2_with fail
          go_roundg (m.length - (0 + 1))
          case measure => omega
          case rel =>
            have hX : Ext w6 (w7.drewN nq) := E7.out.drewN _
            have a := HLeft6.out
            obtain ⟨x, y1, y2, y3⟩ := a.q
            exact ⟨0 + 1, by first | rfl | go_num, by omega, Lib.hid ⟨⟨x, y1.ext hX, y2, y3⟩, a.row.extNew hX, a.ext.trans hX⟩⟩
        · obtain ⟨p, hp⟩ : ∃ p, p + 1 = k := ⟨k - 1, by omega⟩
          have hk1 : 0 < k := by omega
          obtain ⟨_, e, r0, r1, r2⟩ := row_cell ho6 (at_get (show p < m.length by omega))
          cases e
          obtain ⟨a, ha⟩ : ∃ a, a = at_ m p := ⟨_, rfl⟩
          rw [← ha] at r0 r1 r2
          have haj : UrgP.ahead a j = true := by
            rw [ha, HJ.out]
            have h1 := List.pairwise_iff_getElem.1 HS.out p k (by omega) hlt (by omega)
            rw [at_eq (List.getElem?_eq_getElem (show p < m.length by omega)), at_eq (List.getElem?_eq_getElem hlt)]
            exact h1
          have hkey : UrgP.key a ≠ UrgP.key j := fun e => by
            rw [ha, HJ.out] at e
            have h1 : (m.map UrgP.key)[p]? = some (UrgP.key (at_ m p)) := by rw [List.getElem?_map, at_get (by omega)]; rfl
            have h2 : (m.map UrgP.key)[k]? = some (UrgP.key (at_ m k)) := by rw [List.getElem?_map, at_get hlt]; rfl
            rw [e, ← h2] at h1
            have := (List.getElem?_inj (by rw [List.length_map]; omega) HMK.out).1 h1
            omega
          have hgood : ¬ j.g < a.g := by have := (UrgP.ahead_iff a j).1 haj; omega
          have hko : ¬ (a.o = j.o ∧ a.s = j.s) := fun ⟨e1, e2⟩ => hkey (by show (a.o, a.s) = (j.o, j.s); rw [e1, e2])
          have hko2 : ¬ a.o = j.o ∨ (a.o = j.o ∧ ¬ a.s = j.s) := by omega
          have hw1 : IntKind.i64.wrap ((k : Int) - 1) = (p : Int) := by rw [show (k : Int) - 1 = p by omega]; exact IntWalk.i64_in _ (by omega)
          have hw2 : IntKind.i64.wrap (p : Int) = (p : Int) := IntWalk.i64_in _ (by omega)
          have hpm : p < m.length := by omega
          have HPK2 := Lib.hid hp
          clear ha haj hkey ho6 he6 hp
          go_wp2_with (refine RowSt.wpList_put 32 _ _ rfl rfl rfl w6.heap.size #[.int .u32 j.o, .int .u16 j.s, .int .i64 j.g] rfl rfl 32 _ (at_new _ _) (by kernel_rfl) rfl (by simp [Value.oneCell']) ?_; intro w7 hb7 hc7; have E7 := Lib.hid (e7.chg hc7 (fun q k => by have k : q = w6.heap.size := k; omega)); have c0 := blk_cell (i := 0) hb7 (Ext.refl _) rfl; have c1 := blk_cell (i := 1) hb7 (Ext.refl _) rfl; have c2 := blk_cell (i := 2) hb7 (Ext.refl _) rfl; replace p0 := E7.out.cell_ p0; replace p1 := E7.out.cell_ p1; replace p2 := E7.out.cell_ p2; replace r0 := E7.out.cell_ r0; replace r1 := E7.out.cell_ r1; replace r2 := E7.out.cell_ r2; clear hb7 hc7)
          have hE7 := Lib.hid E7.out
          rcases hko2 with hk1 | ⟨hk1, hk2⟩
          · go_quiet (fail)
            go_wp2_with fail
            go_roundg (m.length - (k + 1))
            case measure => omega
            case rel =>
              have hX : Ext w6 (w7.drewN nq) := E7.out.drewN _
              have a := HLeft6.out
              obtain ⟨x, y1, y2, y3⟩ := a.q
              exact ⟨k + 1, by first | rfl | go_num, by omega, Lib.hid ⟨⟨x, y1.ext hX, y2, y3⟩, a.row.extNew hX, a.ext.trans hX⟩⟩
          · go_quiet (fail)
            go_wp2_with fail
            go_roundg (m.length - (k + 1))
            case measure => omega
            case rel =>
              have hX : Ext w6 (w7.drewN nq) := E7.out.drewN _
              have a := HLeft6.out
              obtain ⟨x, y1, y2, y3⟩ := a.q
              exact ⟨k + 1, by first | rfl | go_num, by omega, Lib.hid ⟨⟨x, y1.ext hX, y2, y3⟩, a.row.extNew hX, a.ext.trans hX⟩⟩
      · obtain ⟨lk, hqk, hhk, hpk⟩ := HK.out.q
        have hl0 : lk.length = 0 := by have := hpk.length_eq; simp at this; omega
        have hnk : ¬ (k : Int) < m.length := by omega
        have HQK := Lib.hid hqk
        have HEK := Lib.hid HK.out.ext
        have HL0 := Lib.hid hl0
        clear hqk hhk hpk HK hl0
        go_wp2_with fail
        refine (len_calls S gq gm lk _ HQK.out).mono ?_
        rintro e w8 ⟨rfl, rfl⟩
        rw [HL0.out]
        go_wp2_with fail
        refine (awake_calls _).mono ?_
        rintro e w9 ⟨rfl, he9⟩
        have HE9 := Lib.hid (HEK.out.trans he9)
        clear he9
        go_wp2_with fail
        go_ret
        exact ⟨rfl, HE9.out⟩
theorem orders_row (A : Option Addr) (n c : Nat) (l : List RJ) (w : World) (hl : (Shape.Sh.sl rjS).ok w (A, n, c, l)) :
    Calls Try.prog 3 #[.slice A n c] w fun e w' => e = .returned (.bool true) ∧ Ext w w' := orders_walk A n c l w hl
end Go.Proofs.Ytipmkddcdnbihaa.UrgW
