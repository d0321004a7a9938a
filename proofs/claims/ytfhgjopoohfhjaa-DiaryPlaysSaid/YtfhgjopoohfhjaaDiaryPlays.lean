import Derived.Test.YtfhgjopoohfhjaaDiaryPlaysS
import Derived.Test.YtfhgjopoohfhjaaDiaryAwake
import Derived.Test.YtfhgjopoohfhjaaShape
import Derived.Test.YtfhgjopoohfhjaaFill
import Derived.ArgAppend
import Derived.Deep.CutBlock
import Derived.Deep.RegionWith
namespace Go.Proofs.Ytfhgjopoohfhjaa.DiaryPlaysW
open Go.RowKit Base Step Vec Diary
open DiaryP (records frame)
open DiaryRec (Rows2 info_b)
open DiaryRef (Reads RowsR)
open DiaryLies (Lies drecords_calls)
open DiaryAwake (awake_calls)
open DiaryPlaysS
open TapePlaysW (Ref put_chg crash_wf)
open TapeP (kept crash turn)
open Shape (Sh Fs)
def actS : Sh := .st (.cons (.int .i64) (.cons (.sl (.int .u8)) (.cons (.int .i64) (.cons (.int .u8) .nil))))
abbrev Act := Int × (Option Addr × Nat × Nat × List Int) × Int × Int × Unit
theorem actcells (x : Act) : actS.cells x = [.int .i64 x.1, .slice x.2.1.1 x.2.1.2.1 x.2.1.2.2.1, .int .i64 x.2.2.1, .int .u8 x.2.2.2.1] := rfl
/-- A slice of rows, read. -/
def rowsL (n : Nat) (xs : List (List Int)) : Lex.Loose := ⟨fun v => ∃ A c, v = .slice A n c, fun v W => ∀ A c, v = .slice A n c → Reads W A n xs⟩
theorem rowsL_st {n : Nat} {xs : List (List Int)} : (rowsL n xs).St Base.Ext := fun _ _ _ h he A c e => (h A c e).ext he
/-- What the document's Append answers. -/
def appL (w0 : World) (A : Option Addr) (n c : Nat) (most : Int) (m : Nat) (xs : List Int) : Lex.Loose := ⟨fun v => ∃ B d, v = .tuple #[.agg #[.slice A n c, .slice B m d, .int .i64 most], .int .i64 0] ∧ m ≤ d, fun v W => ∀ B d, v = .tuple #[.agg #[.slice A n c, .slice B m d, .int .i64 most], .int .i64 0] → New w0 W 5 1 B m d (nums .u8 xs)⟩
theorem appL_st {w0 : World} {A : Option Addr} {n c : Nat} {most : Int} {m : Nat} {xs : List Int} : (appL w0 A n c most m xs).St Base.Ext := fun _ _ _ h he B d e => (h B d e).extNew he
/-- A new block. -/
def allocL (w0 : World) (T : TypeId) (cs : Array Value) : Lex.Loose := ⟨fun v => ∃ g, v = .pointer (some ⟨g, 0, none⟩), fun v W => ∀ g, v = .pointer (some ⟨g, 0, none⟩) → w0.heap.size ≤ g ∧ W.heap[g]? = some (.cells cs T (0, 0))⟩
theorem allocL_st {w0 : World} {T : TypeId} {cs : Array Value} : (allocL w0 T cs).St Base.Ext := fun _ _ _ h he g e => ⟨(h g e).1, he.at_ (h g e).2⟩
theorem three {c : Array Value} (h : c.size = 3) : ∃ u0 u1 u2, c = #[u0, u1, u2] := by
  obtain ⟨l⟩ := c
  match l, h with
  | [u0, u1, u2], _ => exact ⟨u0, u1, u2, rfl⟩
theorem set3 {w : World} {g : Nat} {T : TypeId} {fr : Nat × Nat} {u0 u1 u2 : Value} (h : w.heap[g]? = some (.cells #[u0, u1, u2] T fr)) (a b c : Value) :
    (((w.setCell ⟨g, 0, none⟩ a).setCell ⟨g, 1, none⟩ b).setCell ⟨g, 2, none⟩ c).heap[g]? = some (.cells #[a, b, c] T fr) := set_blk (i := 2) (set_blk (i := 1) (set_blk (i := 0) h a) b) c
/-- The document's tape behind an Append. -/
def ApP (w0 : World) (A1 : Option Addr) (n1 c1 : Nat) (M : Int) (m : Nat) (xs : List Int) (c : Array Value) (W : World) : Prop := ∃ B d, c = #[.slice A1 n1 c1, .slice B m d, .int .i64 M] ∧ m ≤ d ∧ New w0 W 5 1 B m d (nums .u8 xs)
theorem ApP_st {w0 w1 : World} {A1 : Option Addr} {n1 c1 : Nat} {M : Int} {m : Nat} {xs : List Int} {p : Array Value → World → Prop} : ∀ c a b, ApP w0 A1 n1 c1 M m xs c a → Lex.Fill w1 52 p a b → ApP w0 A1 n1 c1 M m xs c b := fun _ _ _ ⟨B, d, h1, h2, h3⟩ he => ⟨B, d, h1, h2, Lex.own_fill h3 he (by decide)⟩
def apF (w0 : World) (A1 : Option Addr) (n1 c1 : Nat) (M : Int) (m : Nat) (xs : List Int) : Lex.Loose := ⟨fun v => ∃ B d, v = .tuple #[.agg #[.slice A1 n1 c1, .slice B m d, .int .i64 M], .int .i64 0] ∧ m ≤ d, fun v W => ∀ B d, v = .tuple #[.agg #[.slice A1 n1 c1, .slice B m d, .int .i64 M], .int .i64 0] → New w0 W 5 1 B m d (nums .u8 xs)⟩
theorem apF_st {w0 w1 : World} {A1 : Option Addr} {n1 c1 : Nat} {M : Int} {m : Nat} {xs : List Int} {p : Array Value → World → Prop} : (apF w0 A1 n1 c1 M m xs).St (Lex.Fill w1 52 p) := fun _ _ _ h he B d e => Lex.own_fill (h B d e) he (by decide)
theorem ap_put {w0 W : World} {A1 : Option Addr} {n1 c1 : Nat} {M : Int} {m : Nat} {xs : List Int} {B : Option Addr} {d g : Nat} {cs : Array Value} {fr : Nat × Nat} (h : New w0 W 5 1 B m d (nums .u8 xs)) (hc : W.heap[g]? = some (.cells cs 52 fr)) (hd : m ≤ d) :
    ApP w0 A1 n1 c1 M m xs #[.slice A1 n1 c1, .slice B m d, .int .i64 M] (((W.setCell ⟨g, 0, none⟩ (.slice A1 n1 c1)).setCell ⟨g, 1, none⟩ (.slice B m d)).setCell ⟨g, 2, none⟩ (.int .i64 M)) :=
  ⟨B, d, rfl, hd, own_put (own_put (own_put h hc (by decide)) (set_blk hc _) (by decide)) (set_blk (set_blk hc _) _) (by decide)⟩
/-- A slice of rows off S, of so much room. -/
def allL (S : Nat → Prop) (n : Nat) (xs : List (List Int)) : Lex.Loose := ⟨fun v => ∃ A c, v = .slice A n c ∧ n ≤ c, fun v W => ∀ A c, v = .slice A n c → Lies S W A n xs⟩
theorem allL_st {S : Nat → Prop} {n : Nat} {xs : List (List Int)} : ∀ v W W', (allL S n xs).R v W → Ext W W' → (allL S n xs).R v W' := fun _ _ _ h he A c e => (h A c e).ext he
/-- append(all[:len(all):len(all)], b): a new array. -/
theorem run_all (W : World) (S : Nat → Prop) (AL : Option Addr) (xs : List (List Int)) (hl : Lies S W AL xs.length xs) (hn : xs.length ≤ 1099511627776) (g : Nat) (D : Option Addr) (m d : Nat) (ys : List Int) (hg : W.heap[g]? = some (.cells #[.slice D m d] 22 (0, 0))) (hmd : m ≤ d) (hr : Rd W .u8 D m ys) (ho : Off S D m) (hS : ∀ i, S i → i < W.heap.size) :
    ∃ A' c' W', (Builtin.append_ #[25, 25] 25 #[.slice AL xs.length xs.length, .slice (some ⟨g, 0, none⟩) 1 1]).run Try.prog W = .ok (.slice A' (xs.length + 1) c') W' ∧ Ext W W' ∧ xs.length + 1 ≤ c' ∧ Lies S W' A' (xs.length + 1) (xs ++ [ys]) := by
  obtain ⟨i, hi, hz, hsize, hby⟩ := info_parts info_b
  have hnews : ∀ (j : Nat) u, [Value.slice D m d][j]? = some u → W.cell? ((⟨g, 0, none⟩ : Addr).add j) = some u := fun j u hu => by
    have ha : (⟨g, 0, none⟩ : Addr).add j = ⟨g, j, none⟩ := by unfold Addr.add; split <;> simp_all
    rw [ha]
    exact blk_cell hg (Ext.refl _) (by simpa using hu)
  have key : ∃ olds : List Value, olds.length = xs.length ∧ (∀ (j : Nat) x, xs[j]? = some x → ∃ B k e, olds[j]? = some (.slice B k e) ∧ k ≤ e ∧ Rd W .u8 B k x ∧ Off S B k) ∧ ∃ v' w', (Builtin.append_ #[25, 25] 25 #[.slice AL xs.length xs.length, .slice (some ⟨g, 0, none⟩) 1 1]).run Try.prog W = .ok v' w' ∧ w'.ownsRow W.heap.size 22 1 v' (xs.length + 1) (olds ++ [.slice D m d]) ∧ W.grownBy w' none := by
    rcases AL with _ | ad
    · have h0 : xs = [] := by
        cases xs with
        | nil => rfl
        | cons x xs => obtain ⟨_, _, _, _, h, _⟩ := hl.at_ 0 x rfl; cases h
      subst h0
      obtain ⟨v', w', hrun, h2, h3, _⟩ := run_append_own (P := Try.prog) W W.heap.size 25 25 22 i _ 1 24 Try.underlying25 hi hz hsize hby rfl (by decide) (.slice none 0 0) 0 [] (World.ownsRow_nil W _ _ _) ⟨g, 0, none⟩ 1 1 [.slice D m d] rfl hnews (by simp [Value.oneCell']) (by decide) (by decide) (Nat.le_refl _)
      exact ⟨[], rfl, fun j x hx => (by cases hx), v', w', hrun, h2, h3⟩
    · have hx0 : ∀ (j : Nat) x, xs[j]? = some x → ∃ B k e, W.cell? (ad.add j) = some (.slice B k e) ∧ k ≤ e ∧ Rd W .u8 B k x ∧ Off S B k := fun j x hx => by
        obtain ⟨ad', B, k, e, h1, h2, h3, h4, h5, h6⟩ := hl.at_ j x hx
        cases h1
        exact ⟨B, k, e, h2, h3, h4, h6⟩
      refine ⟨(List.range xs.length).map fun j => (W.cell? (ad.add j)).getD undef, by simp, fun j x hx => ?_, ?_⟩
      · obtain ⟨B, k, e, h1, h2, h3, h4⟩ := hx0 j x hx
        have hj := (List.getElem?_eq_some_iff.1 hx).1
        exact ⟨B, k, e, by simp [hj, h1], h2, h3, h4⟩
      · obtain ⟨v', w', hrun, h2, h3⟩ := run_append_arg_grows (P := Try.prog) W 25 25 22 i _ 1 24 Try.underlying25 hi hz hsize hby rfl (by decide) ad xs.length xs.length ((List.range xs.length).map fun j => (W.cell? (ad.add j)).getD undef) (by simp) (fun j u hu => by
            have hj : j < xs.length := by have := (List.getElem?_eq_some_iff.1 hu).1; simpa using this
            obtain ⟨B, k, e, h1, _⟩ := hx0 j _ (List.getElem?_eq_getElem hj)
            simp [hj, h1] at hu
            rw [h1, hu]) ⟨g, 0, none⟩ 1 1 [.slice D m d] rfl hnews (by omega) (by simp only [maxLen]; omega) (by omega)
        exact ⟨v', w', hrun, h2, h3⟩
  obtain ⟨olds, hlen, hold, v', w', hrun, h2, h3⟩ := key
  obtain ⟨A', c', rfl⟩ := own_slice h2
  have hE : Ext W w' := ⟨h3.os, h3.tape, h3.output, h3.size, fun k hk => h3.block k hk (by simp)⟩
  have hcap : xs.length + 1 ≤ c' := by
    rcases h2.2 with ⟨h4, _⟩ | ⟨g', cap', cur, h4, _, _, h5, _⟩
    · cases h4
    · cases h4; exact h5
  have hown : Own w' (fun i => W.heap.size ≤ i) 22 1 (.slice A' (xs.length + 1) c') (xs.length + 1) (olds ++ [.slice D m d]) := ⟨⟨h2.1, by
    rcases h2.2 with h4 | ⟨g', cap', cur, h4, h5, h6, h7⟩
    · exact .inl h4
    · exact .inr ⟨g', cap', cur, h4, Nat.zero_le _, h6, h7⟩⟩, fun k hk => (h2.lt k hk).1⟩
  refine ⟨A', c', w', hrun, hE, hcap, by simp, by omega, fun j x hx => ?_⟩
  have hat : ∀ u, (olds ++ [Value.slice D m d])[j]? = some u → ∃ ad, A' = some ad ∧ w'.cell? (ad.add j) = some u ∧ ¬ S ad.block := fun u hu => by
    obtain ⟨ad, h5, h6⟩ := own_cell hown hu
    exact ⟨ad, h5, h6, fun k => by have h7 : W.heap.size ≤ ad.block := hown.foot _ (by rw [h5]; rfl); have := hS _ k; omega⟩
  by_cases hj : j < xs.length
  · rw [List.getElem?_append_left hj] at hx
    obtain ⟨B, k, e, h4, h5, h6, h7⟩ := hold j x hx
    obtain ⟨ad, k1, k2, k3⟩ := hat _ (by rw [List.getElem?_append_left (by rw [hlen]; exact hj)]; exact h4)
    exact ⟨ad, B, k, e, k1, k2, h5, h6.ext hE, k3, h7⟩
  · have hj2 : j = xs.length := by
      have := (List.getElem?_eq_some_iff.1 hx).1
      simp at this
      omega
    subst hj2
    obtain rfl : ys = x := by simpa using hx
    obtain ⟨ad, k1, k2, k3⟩ := hat (.slice D m d) (by rw [← hlen]; simp)
    exact ⟨ad, D, m, d, k1, k2, hmd, hr.ext hE, k3, ho⟩
set_option maxRecDepth 100000 in
set_option maxHeartbeats 16000000 in
theorem walk (most : Int) (A : Option Addr) (n c : Nat) (l : List Act) (w : World) (hm : (Lit.int .i64 most).wf = true) (hl : (Sh.sl actS).ok w (A, n, c, l)) :
    Calls Try.prog 6 #[.int .i64 most, .slice A n c] w fun e w' => e = .returned (.bool true) ∧ Ext w w' := by
  have HM := Lib.hid hm
  obtain ⟨hm0, hm1⟩ := wf_i64 hm
  have HL := Lib.hid hl
  have hn : n ≤ 9223372036854775807 := by have h1 := hl.2.1; have h2 := hl.2.2.1; simp only [maxLen] at h2; exact Nat.le_trans h1 (by omega)
  clear hm hl
  go_enter Try.func6, Try.ntmps6
  go_wp2_with fail
  refine (awake_calls _).mono ?_
  rintro e w1 ⟨rfl, he1⟩
  have HMX : Hid (max most 0 = if 0 ≤ most then most else 0) := Lib.hid (by split <;> omega)
  have hM0 : 0 ≤ max most 0 := by omega
  have hM1 : max most 0 ≤ 9223372036854775807 := by omega
  go_upto_region 3 with fail
  go_cut [5, 6] (fun t r wx => ∃ gt gr : Nat, t = .pointer (some ⟨gt, 0, none⟩) ∧ r = .pointer (some ⟨gr, 0, none⟩) ∧ Tape.Tape wx (fun i => i = gt) gt [] 0 (max most 0) ∧ w.heap.size ≤ gt ∧ Ref (fun i => i = gt) gr (max most 0) wx none 0 0 none 0 0 [] [] ∧ w.heap.size ≤ gr ∧ Ext w wx)
  case first =>
    go_wp2_with (go_at_call 21; refine (Tape.new_calls most _ HM.out).mono ?_; rintro e w2 ⟨rfl, he2, ht2⟩)
    all_goals
      go_meet
      have hlt := ht2.lt _ rfl
      refine ⟨w1.heap.size, w2.heap.size, rfl, rfl, ht2.ext (Ext.new _ _), he1.size, ⟨fun (h : w2.heap.size = w1.heap.size) => by omega, ?_, rd_nil _ _ _, Off.zero _ _, rd_nil _ _ _, Off.zero _ _, Nat.le_refl _⟩, (he1.trans he2).size, (he1.trans he2).alloc _⟩
      first | (rw [show max most 0 = 0 by omega]; exact at_new _ _) | (rw [show max most 0 = most by omega]; exact at_new _ _)
  case rest =>
    obtain ⟨gt, gr, rfl, rfl, ht2, hgt, hr2, hgr, hx2⟩ := hcut
    clear HMX
    generalize max most 0 = M at *
    go_wp2_with fail
    refine (open_calls _ _ _ _ _ _ ht2 (by simp)).mono ?_
    rintro e w3 ⟨g, St, Sd, rfl, hb3, hc3, hg3, hn3⟩
    rw [DiaryAwake.rec0] at hb3
    have hst3 : Step (fun i => i = gt) (Or2 St Sd) wc w3 := ⟨hc3, fun i hi => hi.elim (hg3 i) fun h => .inr (hn3 i h)⟩
    have hff := fresh_step hx2 (fun i (hi : i = gt) => by rw [hi]; exact hgt) hst3
    have hJ : J w gt gr M 0 w3 (.pointer (some ⟨g, 0, none⟩)) (.slice none 0 0) (.int .i64 0) :=
      ⟨g, St, Sd, none, 0, 0, none, 0, 0, [], [], none, 0, [], 0, rfl, rfl, rfl, Nat.le_refl _, ⟨hb3, hff.2, hr2.step hst3, hgr, hff.1, ⟨rfl, Nat.zero_le _, fun i x hx => by cases hx⟩, by omega, by simp, by simp, by simp⟩⟩
    clear hb3 hc3 hg3 hn3 hst3 hff ht2 hr2 hx2
    have HJ := Lib.hid hJ
    clear hJ
    go_wp2_with fail
    go_loopw [7, 8, 9, 10, 11] (fun dv ev al sf i wr => ∃ k : Nat, ev = .int .i64 0 ∧ i = .int .i64 k ∧ k ≤ n ∧ k ≤ 40 ∧ J w gt gr M k wr dv al sf) (fun _ _ _ _ i _ => 40 - (intOf i).toNat)
    case atStart => exact ⟨0, rfl, rfl, Nat.zero_le _, by omega, HJ.out⟩
    case round =>
      clear HJ
      obtain ⟨k, rfl, rfl, hkn, hk40, hJ⟩ := hrel
      by_cases hlt : k < n ∧ k < 40
      · obtain ⟨hlt, hlt40⟩ := hlt
        obtain ⟨h1, h2, h3, h4, h5⟩ : l.length = n ∧ n ≤ c ∧ c ≤ maxLen ∧ (A = none → c = 0) ∧ ∀ i (x : Act), l[i]? = some x → actS.ok w x ∧ ∃ ad, A = some ad ∧ ∀ j u, (actS.cells x)[j]? = some u → w.cell? (ad.add (i * actS.size + j)) = some u := HL.out
        obtain ⟨x, hx⟩ : ∃ x, l[k]? = some x := ⟨_, List.getElem?_eq_getElem (by omega)⟩
        obtain ⟨hxo, ad, rfl, hxc⟩ := h5 k x hx
        rw [actcells] at hxc
        obtain ⟨kind, ⟨D, dn, dc, dl⟩, N, bits, u⟩ := x
        obtain ⟨g, St, Sd, A1, n1, c1, B1, m1, d1, ss, ls, AL, cl, xs, ns, rfl, rfl, rfl, hcl, hs⟩ := hJ
        have hkw : (Lit.int .i64 kind).wf = true := hxo.1
        have hNw : (Lit.int .i64 N).wf = true := hxo.2.2.1
        have hbw : (Lit.int .u8 bits).wf = true := hxo.2.2.2.1
        have hrd : Rd w .u8 D dn dl := Shape.rd_of_ok (c := dc) hxo.2.1
        have hcap : dn ≤ dc := hxo.2.1.2.1
        have x0 := hs.ext.cell_ (hxc 0 _ rfl)
        have x1 := hs.ext.cell_ (hxc 1 _ rfl)
        have x2 := hs.ext.cell_ (hxc 2 _ rfl)
        have x3 := hs.ext.cell_ (hxc 3 _ rfl)
        have hsz : actS.size = 4 := rfl
        rw [hsz] at x0 x1 x2 x3
        rw [← add_of_add] at x1 x2 x3
        rw [Nat.add_zero] at x0
        have y1 : wr.cell? ⟨(ad.add (k * 4)).block, (ad.add (k * 4)).off + 1, none⟩ = some (.slice D dn dc) := x1
        have y2 : wr.cell? ⟨(ad.add (k * 4)).block, (ad.add (k * 4)).off + 2, none⟩ = some (.int .i64 N) := x2
        have y3 : wr.cell? ⟨(ad.add (k * 4)).block, (ad.add (k * 4)).off + 3, none⟩ = some (.int .u8 bits) := x3
        clear h1 h2 h3 h4 h5 hxo hxc hx x1 x2 x3 hsz
        have hA4 : (wr.alloc (.cells #[.int .i64 kind, .slice D dn dc, .int .i64 N, .int .u8 bits] 54)).heap[wr.heap.size]? = some (.cells #[.int .i64 kind, .slice D dn dc, .int .i64 N, .int .u8 bits] 54 (0, 0)) := at_new _ _
        have hs4 := hs.ext_ (Ext.new wr (.cells #[.int .i64 kind, .slice D dn dc, .int .i64 N, .int .u8 bits] 54))
        have HA4 := Lib.hid hA4
        have hlta := hs.lt
        have HLT := Lib.hid hlta
        clear hA4 hs hlta
        by_cases h300 : 300 < dn
        · have HX := Lib.hid hs4.ext
          clear hs4
          go_wp2_with fail
          refine (awake_calls _).mono ?_
          rintro e w8 ⟨rfl, he8⟩
          go_wp2_with fail
          go_ret
          exact ⟨rfl, HX.out.trans he8⟩
        · go_upto_block 2 with fail
          go_cut [7, 8, 9, 10] (fun dv ev al sf wx => ev = .int .i64 0 ∧ J w gt gr M (k + 1) wx dv al sf)
          case first =>
            have hsh := hs4.short
            have hc1 := hs4.c1
            have hc2 := hs4.c2
            have hnl := hs4.b.d.n_le
            have HLEN := Lib.hid hs4.len2
            by_cases k1 : kind = 1
            · subst k1
              go_wp2_with fail
              refine (sync_calls St Sd gt g _ _ _ _ _ _ hs4.b).mono ?_
              rintro e w5 ⟨rfl, hb5, hc5⟩
              rw [HLEN.out] at hb5
              have hst5 : Step (Or2 St Sd) (Or2 St Sd) _ w5 := ⟨hc5, fun _ h => .inl h⟩
              obtain ⟨hx5, hf5, hr5, hl5⟩ := hs4.step hst5
              obtain ⟨r0, r1, r2⟩ := hr5.cells
              have r0 := r0 _ (Ext.refl _)
              have r1 := r1 _ (Ext.refl _)
              have r2 := r2 _ (Ext.refl _)
              have hbb := fun i (hi : And1 (Or2 St Sd) gr i) => Nat.lt_of_lt_of_le (hs4.lt i hi) hst5.size
              go_wp2_with fail
              refine (Ref13.sync_calls A1 n1 c1 ss B1 m1 d1 ls M _ hr5.a hr5.b (by omega) (by omega)).mono ?_
              rintro e w6 ⟨he6, A6, c6, rfl, ho6⟩
              have hr6 := hr5.ext he6
              have hJ' : J w gt gr M (k + 1) _ (.pointer (some ⟨g, 0, none⟩)) (.slice AL xs.length cl) (.int .i64 xs.length) := ⟨g, St, Sd, A6, n1 + m1, c6, none, 0, 0, ss ++ ls, [], AL, cl, xs, xs.length, rfl, rfl, rfl, hcl, pl_put (c' := c6) (d' := 0) (by rw [List.append_nil]; exact hb5.ext he6) hf5 hr6 hs4.new (hx5.trans he6) (hl5.ext he6) (ho6.rd (wf_append hr5.a.wf hr5.b.wf)) (Off.new ho6 hbb) (rd_nil _ _ none) (Off.zero _ _) (Nat.le_refl _) (by omega) (by omega) (by omega) hs4.len⟩
              have q0 := hr6.cells.1 _ (Ext.refl _)
              have q1 := hr6.cells.2.1 _ (Ext.refl _)
              have q2 := hr6.cells.2.2 _ (Ext.refl _)
              have f0 := Pack.free_of hr6.r 0
              have f1 := Pack.free_of hr6.r 1
              have f2 := Pack.free_of hr6.r 2
              clear hs4 hb5 hc5 hst5 hx5 hf5 hr5 hl5 hr6 ho6 he6 hbb
              go_wp2_with fail
              go_meet
              exact ⟨rfl, hJ'⟩
            by_cases k2 : kind = 2
            · subst k2
              clear k1
              have wS : IntKind.i64.wrap ((xs.length : Int) - ns) = xs.length - ns := IntWalk.i64_in _ (by omega)
              go_wp2_with fail
              refine (back_calls St Sd gt g _ _ _ _ _ _ hs4.b).mono ?_
              rintro e w5 ⟨rfl, hb5, hc5⟩
              have hst5 : Step (Or2 St Sd) (Or2 St Sd) _ w5 := ⟨hc5, fun _ h => .inl h⟩
              obtain ⟨hx5, hf5, hr5, hl5⟩ := hs4.step hst5
              go_wp2_with fail
              have hr6 := hr5.ext (Ext.refl w5).drew
              have hX : w5.drew.heap[gr]? = some (.cells #[.slice A1 n1 c1, .slice B1 m1 d1, .int .i64 M] 52 (0, 0)) := hr6.r
              have hlm : (xs.take ns).length = ns := by rw [List.length_take]; omega
              have htk : (ss ++ ls).take n1 = ss := by rw [← hr5.a.len, List.take_left']; rfl
              rw [htk] at hb5
              have key : ∀ W, Chg (fun i => i = gr) w5.drew W → W.heap[gr]? = some (.cells #[.slice A1 n1 c1, .slice none 0 0, .int .i64 M] 52 (0, 0)) → J w gt gr M (k + 1) W (.pointer (some ⟨g, 0, none⟩)) (.slice AL ns cl) (.int .i64 ns) := fun W hc hY =>
                ⟨g, St, Sd, A1, n1, c1, none, 0, 0, ss, [], AL, cl, xs.take ns, ns, rfl, by rw [hlm], rfl, by omega, by rw [List.append_nil]; exact both_put (hb5.ext (Ext.refl w5).drew) hc hr5.off, hf5,
                  ⟨hr5.off, hY, hr6.a.chg hc fun ad ha h0 e => hr6.ao h0 ad ha (.inr e), hr6.ao, rd_nil _ _ _, Off.zero _ _, Nat.le_refl _⟩, hs4.new, (hx5.trans (Ext.refl w5).drew).chg hc fun i hi => by rw [hi]; exact hs4.new, by rw [hlm]; exact (lies_put (hl5.ext (Ext.refl w5).drew) hc).take hnl, by omega, by omega, by omega, fun x hx => hs4.len x (List.mem_of_mem_take hx)⟩
              have KEY := Lib.hid key
              clear key hb5 hc5 hst5 hx5 hf5 hr5 hl5 hs4 htk hlm wS
              have i1 : (ns : Int) ≤ cl := by omega
              have i2 : ns ≤ cl := by omega
              have i3 : (0 : Int) ≤ ns := by omega
              refine Lex.wp_region_st (gr) (some (.cells #[.slice A1 n1 c1, .slice B1 m1 d1, .int .i64 M] 52 (0, 0))) (some (.cells #[.slice A1 n1 c1, .slice none 0 0, .int .i64 M] 52 (0, 0))) [(4, .stored gr (some (.cells #[.slice A1 n1 c1, .slice none 0 0, .int .i64 M] 52 (0, 0))))] (by kernel_rfl) (by kernel_rfl) (by repeat (first | exact Lex.st_nil | refine Lex.st_cons (by first | exact Lex.stored_st | exact Lex.const_stS | exact Lex.such_st) ?_)) ?_
              repeat (first | (refine Lex.lex_skip (by rfl) ?_; simp only [Act.put, List.setIfInBounds_toArray, List.set_cons_zero, List.set_cons_succ]) | (refine Lex.lex_still (by rfl) (by rfl) ?_; apply Exists.intro; refine ⟨fun W hW => ?_, ?_⟩; (have hE := hW.1; clear hW; go_simp; try with_reducible rfl); simp only [Act.put, List.setIfInBounds_toArray, List.set_cons_zero, List.set_cons_succ]))
              refine Lex.lex_loose (by rfl) (by rfl) (fun W hW => ?_) ?_
              · have hor := hW.1.or_ (a := w5.drew) hX
                obtain ⟨v1, hblk⟩ : ∃ v1, W.heap[gr]? = some (.cells #[.slice A1 n1 c1, v1, .int .i64 M] 52 (0, 0)) := by
                  rcases hor with h | h
                  · exact ⟨_, h⟩
                  · exact ⟨_, h⟩
                have r1 := blk_cell (i := 1) hblk (Ext.refl _) rfl
                have rf1 := Pack.free_of hblk 1
                have hY := set_blk (i := 1) hblk (.slice none 0 0)
                have hc := Chg.setCell (S := fun i => i = gr) (Chg.refl _ W) (p := ⟨gr, 1, none⟩) rfl (.slice none 0 0)
                have HOR := Lib.hid (Lex.St.mk_ hc hor hY)
                have HY := Lib.hid hY
                clear hor hc hY
                go_simp
                exact ⟨rfl, HOR.out, HY.out⟩
              rintro v rfl
              simp only [Act.put, List.setIfInBounds_toArray, List.set_cons_zero, List.set_cons_succ]
              repeat (first | (refine Lex.lex_skip (by rfl) ?_; simp only [Act.put, List.setIfInBounds_toArray, List.set_cons_zero, List.set_cons_succ]) | (refine Lex.lex_still (by rfl) (by rfl) ?_; apply Exists.intro; refine ⟨fun W hW => ?_, ?_⟩; (have hE := hW.1; clear hW; go_simp; try with_reducible rfl); simp only [Act.put, List.setIfInBounds_toArray, List.set_cons_zero, List.set_cons_succ]))
              refine Lex.lex_nil (fun W hW => ?_)
              have hJ' := KEY.out W hW.1.1 (Lex.upd_here (hW.2 4))
              clear hW KEY
              go_wp2_with fail
              go_meet
              exact ⟨rfl, hJ'⟩
            by_cases k3 : kind = 3
            · subst k3
              clear k1 k2
              have a2 := blk_cell (i := 2) HA4.out (Ext.refl _) rfl
              have a3 := blk_cell (i := 3) HA4.out (Ext.refl _) rfl
              have hkl := TapeP.kept_le N m1
              have hlm : (ss ++ ls).length - n1 = m1 := by rw [HLEN.out]; omega
              have hCl : (crash (ss ++ ls) n1 N bits).length = n1 + kept N m1 := by rw [TapeP.crash_length _ _ _ _ (by rw [HLEN.out]; omega), hlm]
              go_wp2_with fail
              refine (Tape.crash_calls St gt (ss ++ ls) n1 M N bits _ hs4.b.t hNw hbw (by rw [HLEN.out]; omega)).mono ?_
              rw [hlm]
              rintro e w5 ⟨rfl, S5, ht5, hst5⟩
              obtain ⟨C, hC⟩ : ∃ C, crash (ss ++ ls) n1 N bits = C := ⟨_, rfl⟩
              rw [hC] at ht5 hCl
              have hr5 := (ref_mono hs4.ref (S' := St) fun i hi => .inl hi).step hst5
              have hff5 := fresh_step hs4.ext (fun i hi => hs4.fresh i (.inl hi)) hst5
              have hA5 := hst5.chg.at_ HA4.out (fun h => by have := HLT.out _ (.inl (.inl h)); omega)
              have b2 := blk_cell (i := 2) hA5 (Ext.refl _) rfl
              have b3 := blk_cell (i := 3) hA5 (Ext.refl _) rfl
              have hnew := hs4.new
              have hCw := crash_wf (wf_append hs4.ref.a.wf hs4.ref.b.wf) n1 N bits
              rw [hC] at hCw
              have hu := DiaryP.records_used (xs := C) fun x hx => wf_u8 (hCw x hx)
              have hroom := DiaryPlaysP.records_room (xs := C) fun x hx => wf_u8 (hCw x hx)
              have hrl := DiaryP.records_len C
              obtain ⟨u, hu2⟩ := Int.eq_ofNat_of_zero_le hu.1
              rw [hu2] at hu hroom
              rw [hCl] at hu
              obtain ⟨r0, r1, r2⟩ := hr5.cells
              have r0 := r0 _ (Ext.refl _)
              have r1 := r1 _ (Ext.refl _)
              have r2 := r2 _ (Ext.refl _)
              clear hs4 a2 a3
              go_wp2_with fail
              refine (Ref13.crash_calls A1 n1 c1 ss B1 m1 d1 ls M N bits _ hr5.a hr5.b (by omega) (by omega) hr5.cap hNw hbw).mono ?_
              rintro e w6 ⟨he6, A6, c6, rfl, ho6⟩
              rw [hC] at ho6
              have hr6 := hr5.ext he6
              have hlt5 : ∀ i, And1 S5 gr i → i < w5.heap.size := fun i hi => hi.elim (ht5.lt i) fun e => by rw [e]; exact hr5.lt
              have hr7 := hr6.put (A' := A6) (n' := n1 + kept N m1) (c' := c6) (B' := none) (m' := 0) (d' := 0) (ss' := C) (ls' := []) (ho6.rd hCw) (Off.new ho6 hlt5) (rd_nil _ _ none) (Off.zero _ _) (Nat.le_refl _)
              have ht7 := (ht5.ext he6).chg (put_chg _ gr (.slice A6 (n1 + kept N m1) c6) (.slice none 0 0) (.int .i64 M)) fun _ hi e => hr6.off (e ▸ hi)
              have hx7 := (hff5.1.trans he6).chg (put_chg _ gr (.slice A6 (n1 + kept N m1) c6) (.slice none 0 0) (.int .i64 M)) fun i hi => by rw [hi]; exact hnew
              have q0 := hr6.cells.1 _ (Ext.refl _)
              have q1 := hr6.cells.2.1 _ (Ext.refl _)
              have q2 := hr6.cells.2.2 _ (Ext.refl _)
              have f0 := Pack.free_of hr6.r 0
              have f1 := Pack.free_of hr6.r 1
              have f2 := Pack.free_of hr6.r 2
              have t0 := hr7.cells.1 _ (Ext.refl _)
              have t1 := hr7.cells.2.1 _ (Ext.refl _)
              have t2 := hr7.cells.2.2 _ (Ext.refl _)
              have hlt7 : ∀ i, And1 S5 gr i → i < (((w6.setCell ⟨gr, 0, none⟩ (.slice A6 (n1 + kept N m1) c6)).setCell ⟨gr, 1, none⟩ (.slice none 0 0)).setCell ⟨gr, 2, none⟩ (.int .i64 M)).heap.size := fun i hi => hi.elim (ht7.lt i) fun e => by rw [e]; exact hr7.lt
              clear hr5 hr6 ho6 ht5 he6 r0 r1 r2 b2 b3 hst5 hlt5 hA5
              go_wp2_with fail
              refine (Ref13.all_calls A6 (n1 + kept N m1) c6 C none 0 0 [] M _ hr7.a (rd_nil _ _ _) (by omega) (by omega)).mono ?_
              rintro e w8 ⟨he8, A8, c8, rfl, ho8⟩
              simp only [Nat.add_zero, List.append_nil] at ho8 ⊢
              have hr8 := hr7.ext he8
              have hrd8 := ho8.rd hCw
              have hz8 : ∀ i, (∃ b, A8 = some b ∧ b.block = i) → ¬ And1 S5 gr i := fun i hb hi => by
                obtain ⟨b, hb, he⟩ := hb
                have h1 := ho8.foot b.block (by rw [hb]; rfl)
                have h2 := hlt7 i hi
                omega
              have hcap8 := ho8.cap.1
              have hlt8 : ∀ i, And1 S5 gr i → i < w8.heap.size := fun i hi => Nat.lt_of_lt_of_le (hlt7 i hi) he8.size
              have ht8 := ht7.ext he8
              have hx8 := hx7.trans he8
              clear q0 q1 q2 f0 f1 f2 t0 t1 t2 hr7 ht7 hx7 hlt7 ho8 he8
              go_wp2_with fail
              refine (DiaryRef.rrecords_calls A8 (n1 + kept N m1) c8 C _ hrd8 hcap8 (by omega)).mono ?_
              rintro e w9 ⟨he9, A9, m9, c9, rfl, hrows⟩
              obtain rfl := hrows.reads.len
              rw [hu2]
              have hcap9 : (records C).1.length ≤ c9 := by obtain ⟨_, h1, _⟩ := id hrows; exact h1.cap.1
              have hr9 := hr8.ext he9
              have hlies9 := lies_of (S := And1 S5 gr) hrows hlt8 hz8
              have hlt9 : ∀ i, And1 S5 gr i → i < w9.heap.size := fun i hi => Nat.lt_of_lt_of_le (hlt8 i hi) he9.size
              have ht9 := ht8.ext he9
              have hx9 := hx8.trans he9
              have q0 := hr9.cells.1 _ (Ext.refl _)
              have q1 := hr9.cells.2.1 _ (Ext.refl _)
              have q2 := hr9.cells.2.2 _ (Ext.refl _)
              clear hr8 ht8 hx8 hlt8 hrows hz8 hrd8 he9
              go_wp2_with fail
              refine (Ref13.cut_calls A6 (n1 + kept N m1) c6 C none 0 0 [] M _ hr9.a (rd_nil _ _ _) (by omega) (by omega) u (by omega)).mono ?_
              rintro e w10 ⟨he10, A10, c10, rfl, ho10⟩
              rw [List.append_nil] at ho10
              have hr10 := hr9.ext he10
              have hr11 := hr10.put (A' := A10) (n' := u) (c' := c10) (B' := none) (m' := 0) (d' := 0) (ss' := C.take u) (ls' := []) (ho10.rd (fun x hx => hCw x (List.mem_of_mem_take hx))) (Off.new ho10 hlt9) (rd_nil _ _ none) (Off.zero _ _) (Nat.le_refl _)
              have ht11 := (ht9.ext he10).chg (put_chg _ gr (.slice A10 u c10) (.slice none 0 0) (.int .i64 M)) fun _ hi e => hr10.off (e ▸ hi)
              have hx11 := (hx9.trans he10).chg (put_chg _ gr (.slice A10 u c10) (.slice none 0 0) (.int .i64 M)) fun i hi => by rw [hi]; exact hnew
              have hl11 := lies_put (hlies9.ext he10) (put_chg _ gr (.slice A10 u c10) (.slice none 0 0) (.int .i64 M))
              have q0 := hr10.cells.1 _ (Ext.refl _)
              have q1 := hr10.cells.2.1 _ (Ext.refl _)
              have q2 := hr10.cells.2.2 _ (Ext.refl _)
              have f0 := Pack.free_of hr10.r 0
              have f1 := Pack.free_of hr10.r 1
              have f2 := Pack.free_of hr10.r 2
              clear hr9 ht9 hx9 hlt9 hlies9 ho10 he10 hr10
              go_wp2_with fail
              refine (open_calls S5 gt C _ M _ ht11 (by rw [hCl]; omega)).mono ?_
              rintro e w12 ⟨g12, S12, Sd12, rfl, hb12, hc12, hg12, hn12⟩
              have hun : (records C).2.toNat = u := by rw [hu2]; rfl
              rw [hun] at hb12
              have hst12 : Step S5 (Or2 S12 Sd12) _ w12 := ⟨hc12, fun i hi => hi.elim (hg12 i) fun h => .inr (hn12 i h)⟩
              have hff12 := fresh_step hx11 hff5.2 hst12
              have hJ' : J w gt gr M (k + 1) w12 (.pointer (some ⟨g12, 0, none⟩)) (.slice A9 (records C).1.length c9) (.int .i64 (records C).1.length) := ⟨g12, S12, Sd12, A10, u, c10, none, 0, 0, C.take u, [], A9, c9, (records C).1, (records C).1.length, rfl, rfl, rfl, hcap9, by rw [List.append_nil]; exact hb12, hff12.2, hr11.step hst12, hnew, hff12.1, hl11.step (hst12.and1 gr), by omega, by omega, by omega, fun x hx => by have := hrl x hx; omega⟩
              clear q0 q1 q2 f0 f1 f2 hr11 ht11 hx11 hl11 hb12 hc12 hg12 hn12 hst12 hff12 hff5
              go_wp2_with fail
              go_meet
              exact ⟨rfl, hJ'⟩
            · have b1 : (kind == 1) = false := by simp [k1]
              have b2 : (kind == 2) = false := by simp [k2]
              have b3 : (kind == 3) = false := by simp [k3]
              clear k1 k2 k3
              obtain rfl := hrd.len
              have hd300 : dl.length ≤ 300 := by omega
              have wU : IntKind.u64.wrap ((xs.length : Int) + 1) = xs.length + 1 := wrap_u64 (by omega) (by omega)
              have wI : IntKind.i64.wrap ((xs.length : Int) + 1) = xs.length + 1 := IntWalk.i64_in _ (by omega)
              have HF := Lib.hid fun W (hr : Rd W .u8 D dl.length dl) => DiaryRef.rframe_calls ((xs.length : Int) + 1) D dl.length dc dl W hr (by omega) (by omega) (by omega)
              have HFW := Lib.hid (Diary.frame_wf (num := (xs.length : Int) + 1) hrd.wf)
              go_upto_region 16 with fail
              obtain ⟨r0, r1, r2⟩ := hs4.ref.cells
              generalize hwa : wr.alloc (.cells #[.int .i64 kind, .slice D dl.length dc, .int .i64 N, .int .u8 bits] 54) = wa at *
              have a1 : ∀ W, Ext wa W → W.cell? ⟨wr.heap.size, 1, none⟩ = some (.slice D dl.length dc) := fun W hW => blk_cell (i := 1) HA4.out hW rfl
              go_cut [15, 16] (fun v15 v16 wx => ∃ (g15 : Nat) (B2 : Option Addr) (m2 d2 : Nat) (ls2 : List Int) (f : Int), v15 = .pointer (some ⟨g15, 0, none⟩) ∧ v16 = .int .i64 f ∧ Ext wa wx ∧ wx.heap[g15]? = some (.cells #[.slice A1 n1 c1, .slice B2 m2 d2, .int .i64 M] 52 (0, 0)) ∧ Hid (M < (n1 : Int) + m1 + (20 + dl.length : Nat) ∧ f = 20 ∧ B2 = B1 ∧ m2 = m1 ∧ d2 = d1 ∧ ls2 = ls ∨ (n1 : Int) + m1 + (20 + dl.length : Nat) ≤ M ∧ f = 0 ∧ m2 = m1 + (20 + dl.length) ∧ ls2 = ls ++ frame ((xs.length : Int) + 1) dl ∧ m2 ≤ d2 ∧ New wa wx 5 1 B2 m2 d2 (nums .u8 ls2)))
              case first =>
                have HX4 := Lib.hid hs4.ext
                have HRA := Lib.hid hs4.ref.a
                have HRB := Lib.hid hs4.ref.b
                clear hs4
                by_cases hfit : M < (n1 : Int) + m1 + (20 + dl.length : Nat)
                · refine Lex.wp_region_fill [0, 1, 2, 3, 4, 5, 6, 7, 8, 9, 10, 11, 12, 13, 14] [] 52 (fun c _ => c = #[.slice A1 n1 c1, .slice B1 m1 d1, .int .i64 M]) (fun _ _ _ h _ => h) [(7, .row wa 5 .u8 (20 + dl.length) (frame ((xs.length : Int) + 1) dl)), (8, .const (.tuple #[.agg #[.slice A1 n1 c1, .slice B1 m1 d1, .int .i64 M], .int .i64 20]))] (by kernel_rfl) (by kernel_rfl) (by repeat (first | exact Lex.st_nil | refine Lex.st_cons (by first | exact Lex.const_stF | exact Lex.such_stF | exact Lex.row_stF (by decide) | assumption) ?_)) ?_; simp only [Lex.pick, List.getElem?_cons_succ, List.getElem?_cons_zero, List.map_cons, List.map_nil]
                  have HFIT := Lib.hid hfit
                  clear hfit
                  repeat (first | (refine Lex.lexU_skip (by rfl) ?_; simp only [Act.put, List.setIfInBounds_toArray, List.set_cons_zero, List.set_cons_succ]) | (refine Lex.lexU_still (by rfl) (by rfl) (by first | exact Base.Ext.refl | exact Lex.Fill.refl) ?_; apply Exists.intro; refine ⟨fun W hW => ?_, ?_⟩; (have hE := Lex.ext_of_cls hW.1; have hE2 := Lex.ext_drew hE; clear hW; go_simp; try with_reducible rfl); simp only [Act.put, List.setIfInBounds_toArray, List.set_cons_zero, List.set_cons_succ]))
                  refine Lex.lexU_loose (by rfl) (by rfl) (fun W hW => ?_) ?_
                  · have hE := Lex.ext_drew (Lex.ext_of_cls hW.1)
                    clear hW
                    go_simp
                    refine (HF.out _ (hrd.ext (HX4.out.trans hE))).mono ?_
                    rintro e w8 ⟨A8, c8, rfl, ho8, he8⟩
                    exact ⟨_, rfl, ⟨A8, c8, rfl, ho8.cap.1⟩, Lex.Fill.of_ext he8, Lex.row_mk (ho8.mono fun i _ hi => Nat.le_trans hE.size hi)⟩
                  rintro v ⟨A8, c8, rfl, hc8⟩
                  simp only [Act.put, List.setIfInBounds_toArray, List.set_cons_zero, List.set_cons_succ]
                  repeat (first | (refine Lex.lexU_skip (by rfl) ?_; simp only [Act.put, List.setIfInBounds_toArray, List.set_cons_zero, List.set_cons_succ]) | (refine Lex.lexU_still (by rfl) (by rfl) (by first | exact Base.Ext.refl | exact Lex.Fill.refl) ?_; apply Exists.intro; refine ⟨fun W hW => ?_, ?_⟩; (have hE := Lex.ext_of_cls hW.1; have hE2 := Lex.ext_drew hE; clear hW; go_simp; try with_reducible rfl); simp only [Act.put, List.setIfInBounds_toArray, List.set_cons_zero, List.set_cons_succ]))
                  refine Lex.lexU_loose (by rfl) (by rfl) (fun W hW => ?_) ?_
                  · have hE := Lex.ext_drew (Lex.ext_of_cls hW.1)
                    clear hW
                    go_simp
                    refine (Ref13.append_full A1 n1 c1 B1 m1 d1 M A8 (20 + dl.length) c8 _ (by omega) (by omega) (by omega) HFIT.out).mono ?_
                    rintro e w8 ⟨rfl, he8⟩
                    exact ⟨_, rfl, rfl, Lex.Fill.of_ext he8, trivial⟩
                  rintro v rfl
                  simp only [Act.put, List.setIfInBounds_toArray, List.set_cons_zero, List.set_cons_succ]
                  repeat (first | (refine Lex.lexU_skip (by rfl) ?_; simp only [Act.put, List.setIfInBounds_toArray, List.set_cons_zero, List.set_cons_succ]) | (refine Lex.lexU_still (by rfl) (by rfl) (by first | exact Base.Ext.refl | exact Lex.Fill.refl) ?_; apply Exists.intro; refine ⟨fun W hW => ?_, ?_⟩; (have hE := Lex.ext_of_cls hW.1; have hE2 := Lex.ext_drew hE; clear hW; go_simp; try with_reducible rfl); simp only [Act.put, List.setIfInBounds_toArray, List.set_cons_zero, List.set_cons_succ]))
                  refine Lex.lexU_such (by rfl) (by rfl) (Lex.laidF wa 52 3) (Lex.laidF_st) (fun W hW => ?_) ?_
                  · have hE := Lex.ext_drew (Lex.ext_of_cls hW.1)
                    clear hW
                    go_simp
                    exact ⟨⟨_, rfl⟩, Lex.Fill.of_ext (Ext.new _ _), Lex.laidF_mk rfl hE.size⟩
                  rintro v ⟨g15, rfl⟩
                  simp only [Act.put, List.setIfInBounds_toArray, List.set_cons_zero, List.set_cons_succ]
                  refine Lex.lexU_such (by rfl) (by rfl) (Lex.filledF 52 (fun c _ => c = #[.slice A1 n1 c1, .slice B1 m1 d1, .int .i64 M]) g15) (Lex.filledF_st (fun _ _ _ h _ => h)) (fun W hW => ?_) ?_
                  · have hE := Lex.ext_drew (Lex.ext_of_cls hW.1)
                    obtain ⟨hg, c, hcs, hc⟩ := Lex.upd_here (hW.2 12 (by kernel_rfl)) _ rfl
                    obtain ⟨u0, u1, u2, rfl⟩ := three hcs
                    clear hW
                    have q0 := blk_cell (i := 0) hc (Ext.refl _) rfl
                    have q1 := blk_cell (i := 1) hc (Ext.refl _) rfl
                    have q2 := blk_cell (i := 2) hc (Ext.refl _) rfl
                    have f0 := Pack.free_of hc 0
                    have f1 := Pack.free_of hc 1
                    have f2 := Pack.free_of hc 2
                    have HS := Lib.hid (set3 hc (.slice A1 n1 c1) (.slice B1 m1 d1) (.int .i64 M))
                    have HC := Lib.hid hc
                    clear hc
                    go_simp
                    exact ⟨rfl, Lex.Fill.mk_ hg (put_chg _ _ _ _ _) HC.out HS.out rfl rfl, _, HS.out, rfl⟩
                  rintro v rfl
                  simp only [Act.put, List.setIfInBounds_toArray, List.set_cons_zero, List.set_cons_succ]
                  repeat (first | (refine Lex.lexU_skip (by rfl) ?_; simp only [Act.put, List.setIfInBounds_toArray, List.set_cons_zero, List.set_cons_succ]) | (refine Lex.lexU_still (by rfl) (by rfl) (by first | exact Base.Ext.refl | exact Lex.Fill.refl) ?_; apply Exists.intro; refine ⟨fun W hW => ?_, ?_⟩; (have hE := Lex.ext_of_cls hW.1; have hE2 := Lex.ext_drew hE; clear hW; go_simp; try with_reducible rfl); simp only [Act.put, List.setIfInBounds_toArray, List.set_cons_zero, List.set_cons_succ]))
                  refine Lex.lexU_nil (fun W hW => ?_)
                  have h12 := (hW.2 12).1.2 rfl _ rfl
                  obtain ⟨c, hc, rfl⟩ := (hW.2 13).2 rfl
                  have hE := Lex.ext_drew (Lex.ext_of_cls hW.1)
                  clear hW
                  refine Lex.onlyN_intro ?_
                  go_wp2_with fail
                  go_meet
                  exact ⟨g15, B1, m1, d1, ls, 20, rfl, rfl, hE, hc, Lib.hid (.inl ⟨HFIT.out, rfl, rfl, rfl, rfl, rfl⟩)⟩
                · have hsA : (apF wa A1 n1 c1 M (m1 + (20 + dl.length)) (ls ++ frame ((xs.length : Int) + 1) dl)).St (Lex.Fill wa 52 (ApP wa A1 n1 c1 M (m1 + (20 + dl.length)) (ls ++ frame ((xs.length : Int) + 1) dl))) := apF_st
                  refine Lex.wp_region_fill [0, 1, 2, 3, 4, 5, 6, 7, 8, 9, 10, 11, 12, 13, 14] [] 52 (ApP wa A1 n1 c1 M (m1 + (20 + dl.length)) (ls ++ frame ((xs.length : Int) + 1) dl)) ApP_st [(7, .row wa 5 .u8 (20 + dl.length) (frame ((xs.length : Int) + 1) dl)), (8, apF wa A1 n1 c1 M (m1 + (20 + dl.length)) (ls ++ frame ((xs.length : Int) + 1) dl))] (by kernel_rfl) (by kernel_rfl) (by repeat (first | exact Lex.st_nil | refine Lex.st_cons (by first | exact Lex.const_stF | exact Lex.such_stF | exact Lex.row_stF (by decide) | assumption) ?_)) ?_; simp only [Lex.pick, List.getElem?_cons_succ, List.getElem?_cons_zero, List.map_cons, List.map_nil]
                  clear hsA
                  have HFIT := Lib.hid (Int.not_lt.1 hfit)
                  clear hfit
                  repeat (first | (refine Lex.lexU_skip (by rfl) ?_; simp only [Act.put, List.setIfInBounds_toArray, List.set_cons_zero, List.set_cons_succ]) | (refine Lex.lexU_still (by rfl) (by rfl) (by first | exact Base.Ext.refl | exact Lex.Fill.refl) ?_; apply Exists.intro; refine ⟨fun W hW => ?_, ?_⟩; (have hE := Lex.ext_of_cls hW.1; have hE2 := Lex.ext_drew hE; clear hW; go_simp; try with_reducible rfl); simp only [Act.put, List.setIfInBounds_toArray, List.set_cons_zero, List.set_cons_succ]))
                  refine Lex.lexU_loose (by rfl) (by rfl) (fun W hW => ?_) ?_
                  · have hE := Lex.ext_drew (Lex.ext_of_cls hW.1)
                    clear hW
                    go_simp
                    refine (HF.out _ (hrd.ext (HX4.out.trans hE))).mono ?_
                    rintro e w8 ⟨A8, c8, rfl, ho8, he8⟩
                    exact ⟨_, rfl, ⟨A8, c8, rfl, ho8.cap.1⟩, Lex.Fill.of_ext he8, Lex.row_mk (ho8.mono fun i _ hi => Nat.le_trans hE.size hi)⟩
                  rintro v ⟨A8, c8, rfl, hc8⟩
                  simp only [Act.put, List.setIfInBounds_toArray, List.set_cons_zero, List.set_cons_succ]
                  repeat (first | (refine Lex.lexU_skip (by rfl) ?_; simp only [Act.put, List.setIfInBounds_toArray, List.set_cons_zero, List.set_cons_succ]) | (refine Lex.lexU_still (by rfl) (by rfl) (by first | exact Base.Ext.refl | exact Lex.Fill.refl) ?_; apply Exists.intro; refine ⟨fun W hW => ?_, ?_⟩; (have hE := Lex.ext_of_cls hW.1; have hE2 := Lex.ext_drew hE; clear hW; go_simp; try with_reducible rfl); simp only [Act.put, List.setIfInBounds_toArray, List.set_cons_zero, List.set_cons_succ]))
                  refine Lex.lexU_loose (by rfl) (by rfl) (fun W hW => ?_) ?_
                  · have hE := Lex.ext_drew (Lex.ext_of_cls hW.1)
                    have h7 := Lex.upd_here (hW.2 7 (by kernel_rfl)) _ _ rfl
                    clear hW
                    go_simp
                    refine (Ref13.append_calls A1 n1 c1 B1 m1 d1 ls M A8 (20 + dl.length) c8 _ _ (HRB.out.ext hE) (h7.rd HFW.out) (by omega) (by omega) (by omega) HFIT.out).mono ?_
                    rintro e w8 ⟨he8, B8, d8, rfl, ho8⟩
                    exact ⟨_, rfl, ⟨B8, d8, rfl, ho8.cap.1⟩, Lex.Fill.of_ext he8, fun _ _ e => by cases e; exact ho8.mono fun i _ hi => Nat.le_trans hE.size hi⟩
                  rintro v ⟨B8, d8, rfl, hd8⟩
                  simp only [Act.put, List.setIfInBounds_toArray, List.set_cons_zero, List.set_cons_succ]
                  repeat (first | (refine Lex.lexU_skip (by rfl) ?_; simp only [Act.put, List.setIfInBounds_toArray, List.set_cons_zero, List.set_cons_succ]) | (refine Lex.lexU_still (by rfl) (by rfl) (by first | exact Base.Ext.refl | exact Lex.Fill.refl) ?_; apply Exists.intro; refine ⟨fun W hW => ?_, ?_⟩; (have hE := Lex.ext_of_cls hW.1; have hE2 := Lex.ext_drew hE; clear hW; go_simp; try with_reducible rfl); simp only [Act.put, List.setIfInBounds_toArray, List.set_cons_zero, List.set_cons_succ]))
                  refine Lex.lexU_such (by rfl) (by rfl) (Lex.laidF wa 52 3) (Lex.laidF_st) (fun W hW => ?_) ?_
                  · have hE := Lex.ext_drew (Lex.ext_of_cls hW.1)
                    clear hW
                    go_simp
                    exact ⟨⟨_, rfl⟩, Lex.Fill.of_ext (Ext.new _ _), Lex.laidF_mk rfl hE.size⟩
                  rintro v ⟨g15, rfl⟩
                  simp only [Act.put, List.setIfInBounds_toArray, List.set_cons_zero, List.set_cons_succ]
                  refine Lex.lexU_such (by rfl) (by rfl) (Lex.filledF 52 (ApP wa A1 n1 c1 M (m1 + (20 + dl.length)) (ls ++ frame ((xs.length : Int) + 1) dl)) g15) (Lex.filledF_st ApP_st) (fun W hW => ?_) ?_
                  · have hE := Lex.ext_drew (Lex.ext_of_cls hW.1)
                    obtain ⟨hg, c, hcs, hc⟩ := Lex.upd_here (hW.2 12 (by kernel_rfl)) _ rfl
                    have h8 := (hW.2 8 (by kernel_rfl)).1.2 rfl _ _ rfl
                    obtain ⟨u0, u1, u2, rfl⟩ := three hcs
                    clear hW
                    have q0 := blk_cell (i := 0) hc (Ext.refl _) rfl
                    have q1 := blk_cell (i := 1) hc (Ext.refl _) rfl
                    have q2 := blk_cell (i := 2) hc (Ext.refl _) rfl
                    have f0 := Pack.free_of hc 0
                    have f1 := Pack.free_of hc 1
                    have f2 := Pack.free_of hc 2
                    have HS := Lib.hid (set3 hc (.slice A1 n1 c1) (.slice B8 (m1 + (20 + dl.length)) d8) (.int .i64 M))
                    have HP := Lib.hid (ap_put (g := g15) h8 hc hd8 (A1 := A1) (n1 := n1) (c1 := c1) (M := M))
                    have HC := Lib.hid hc
                    clear hc h8
                    go_simp
                    exact ⟨rfl, Lex.Fill.mk_ hg (put_chg _ _ _ _ _) HC.out HS.out rfl HP.out, _, HS.out, HP.out⟩
                  rintro v rfl
                  simp only [Act.put, List.setIfInBounds_toArray, List.set_cons_zero, List.set_cons_succ]
                  repeat (first | (refine Lex.lexU_skip (by rfl) ?_; simp only [Act.put, List.setIfInBounds_toArray, List.set_cons_zero, List.set_cons_succ]) | (refine Lex.lexU_still (by rfl) (by rfl) (by first | exact Base.Ext.refl | exact Lex.Fill.refl) ?_; apply Exists.intro; refine ⟨fun W hW => ?_, ?_⟩; (have hE := Lex.ext_of_cls hW.1; have hE2 := Lex.ext_drew hE; clear hW; go_simp; try with_reducible rfl); simp only [Act.put, List.setIfInBounds_toArray, List.set_cons_zero, List.set_cons_succ]))
                  refine Lex.lexU_nil (fun W hW => ?_)
                  obtain ⟨c, hc, B9, d9, rfl, hd9, hn9⟩ := (hW.2 13).2 rfl
                  have hE := Lex.ext_drew (Lex.ext_of_cls hW.1)
                  clear hW
                  refine Lex.onlyN_intro ?_
                  go_wp2_with fail
                  go_meet
                  exact ⟨g15, B9, m1 + (20 + dl.length), d9, ls ++ frame ((xs.length : Int) + 1) dl, 0, rfl, rfl, hE, hc, Lib.hid (.inr ⟨HFIT.out, rfl, rfl, rfl, hd9, hn9⟩)⟩
              case rest =>
                obtain ⟨g15, B2, m2, d2, ls2, f, rfl, rfl, hx, hg15, HK⟩ := hcut
                have hgl : gr < wr.heap.size := HLT.out gr (.inr rfl)
                have hgne : wr.heap.size ≠ gr := by omega
                have hsza : wr.heap.size < wa.heap.size := by rw [← hwa]; simp
                have hs5 := hs4.ext_ hx
                have hA5 := hx.at_ HA4.out
                have hA6 := (put_chg wc gr (.slice A1 n1 c1) (.slice B2 m2 d2) (.int .i64 M)).at_ hA5 hgne
                have y5 := blk_cell (i := 1) hA6 (Ext.refl _) rfl
                have HA6 := Lib.hid hA6
                have p0 := blk_cell (i := 0) hg15 (Ext.refl _) rfl
                have p1 := blk_cell (i := 1) hg15 (Ext.refl _) rfl
                have p2 := blk_cell (i := 2) hg15 (Ext.refl _) rfl
                have q0 := hs5.ref.cells.1 _ (Ext.refl _)
                have q1 := hs5.ref.cells.2.1 _ (Ext.refl _)
                have q2 := hs5.ref.cells.2.2 _ (Ext.refl _)
                have f0 := Pack.free_of hs5.ref.r 0
                have f1 := Pack.free_of hs5.ref.r 1
                have f2 := Pack.free_of hs5.ref.r 2
                have hof : Off St D dl.length := Off.old hrd fun i hi => hs4.fresh i (.inl hi)
                have hof2 : Off (And1 (Or2 St Sd) gr) D dl.length := Off.old hrd fun i hi => hi.elim (hs4.fresh i) fun e => by rw [e]; exact hs4.new
                have hbl : (ss ++ ls).length ≤ 1099511627776 := by rw [HLEN.out]; omega
                have hxl : xs.length ≤ 1099511627776 := by omega
                have HBB := Lib.hid fun i (hi : And1 (Or2 St Sd) gr i) => Nat.lt_trans (HLT.out i hi) hsza
                clear hA5 hA6 hs4
                rcases HK.out with ⟨hfit, rfl, rfl, rfl, rfl, rfl⟩ | ⟨hfit, rfl, rfl, rfl, hd2, hn2⟩
                · have hp := pl_put (k := k + 1) (c' := c1) (d' := d2) hs5.b hs5.fresh hs5.ref hs5.new hs5.ext hs5.lies hs5.ref.a hs5.ref.ao hs5.ref.b hs5.ref.bo hs5.ref.cap (by omega) hs5.c1 hs5.c2 hs5.len
                  have HP := Lib.hid hp
                  have HFIT : Hid (M < ((ss ++ ls2).length : Int) + (20 + dl.length : Nat)) := Lib.hid (by rw [HLEN.out]; omega)
                  clear hp hs5 hfit hg15 hx HK
                  go_wp2_with fail
                  refine (write_full St Sd gt g (ss ++ ls2) n1 M xs ns _ HP.out.b D dl.length dc dl (hrd.ext HP.out.ext) (by omega) hxl HFIT.out).mono ?_
                  rintro e w6 ⟨rfl, he6⟩
                  have hJ' : J w gt gr M (k + 1) w6 (.pointer (some ⟨g, 0, none⟩)) (.slice AL xs.length cl) (.int .i64 ns) := ⟨g, St, Sd, A1, n1, c1, B2, m2, d2, ss, ls2, AL, cl, xs, ns, rfl, rfl, rfl, hcl, HP.out.ext_ he6⟩
                  clear HP he6
                  go_wp2_with fail
                  go_meet
                  exact ⟨rfl, hJ'⟩
                · have hb3 := both_put hs5.b (put_chg wc gr (.slice A1 n1 c1) (.slice B2 (m1 + (20 + dl.length)) d2) (.int .i64 M)) hs5.ref.off
                  have hr3 := hs5.ref.put (n' := n1) (c' := c1) (d' := d2) hs5.ref.a hs5.ref.ao (hn2.rd (wf_append hs5.ref.b.wf HFW.out)) (Off.new hn2 HBB.out) hd2
                  have hl3 := lies_put hs5.lies (put_chg wc gr (.slice A1 n1 c1) (.slice B2 (m1 + (20 + dl.length)) d2) (.int .i64 M))
                  have hx3 : Ext w (((wc.setCell ⟨gr, 0, none⟩ (.slice A1 n1 c1)).setCell ⟨gr, 1, none⟩ (.slice B2 (m1 + (20 + dl.length)) d2)).setCell ⟨gr, 2, none⟩ (.int .i64 M)) := hs5.ext.chg (put_chg wc gr _ _ _) fun i hi => by rw [hi]; exact hs5.new
                  have hf3 := hs5.fresh
                  have hnew := hs5.new
                  have hxlen := hs5.len
                  have HFIT : Hid (((ss ++ ls).length : Int) + (20 + dl.length : Nat) ≤ M) := Lib.hid (by rw [HLEN.out]; omega)
                  clear hs5 hfit hg15 hx HK
                  have HR3 := Lib.hid hr3
                  clear hr3
                  go_wp2_with fail
                  refine (write_calls St Sd gt g (ss ++ ls) n1 M xs ns _ hb3 D dl.length dc dl (hrd.ext hx3) hof (by omega) hbl hxl HFIT.out).mono ?_
                  rintro e w6 ⟨rfl, St6, Sd6, hb6, hst6⟩
                  have hff6 := fresh_step hx3 hf3 hst6
                  have hl6 := hl3.step (hst6.and1 gr)
                  have hr6 := HR3.out.step hst6
                  have hA7 := hst6.chg.at_ HA6.out (fun h => by have := HLT.out _ (.inl h); omega)
                  have hof6 : Off (And1 (Or2 St6 Sd6) gr) D dl.length := hof2.step (hrd.ext hx3) (hst6.and1 gr)
                  have hlt6 : ∀ i, And1 (Or2 St6 Sd6) gr i → i < w6.heap.size := fun i hi => hi.elim (fun h2 => h2.elim (hb6.t.lt i) (hb6.d.lt i)) fun e => by rw [e]; exact hr6.lt
                  rw [List.append_assoc] at hb6
                  have hfl := DiaryP.frame_length ((xs.length : Int) + 1) dl
                  have hJ' : ∀ W A9 c9, Ext w6 W → Lies (And1 (Or2 St6 Sd6) gr) W A9 (xs.length + 1) (xs ++ [dl]) → xs.length + 1 ≤ c9 → J w gt gr M (k + 1) W (.pointer (some ⟨g, 0, none⟩)) (.slice A9 (xs.length + 1) c9) (.int .i64 ns) := fun W A9 c9 hE hl hc =>
                    ⟨g, St6, Sd6, A1, n1, c1, B2, m1 + (20 + dl.length), d2, ss, ls ++ frame ((xs.length : Int) + 1) dl, A9, c9, xs ++ [dl], ns, rfl, by simp, rfl, by simpa using hc, hb6.ext hE, hff6.2, hr6.ext hE, hnew, hff6.1.trans hE, by simpa using hl, by omega, by simp; omega, by omega, fun x hx => by rcases List.mem_append.1 hx with h | h; exact hxlen x h; rw [List.mem_singleton.1 h]; omega⟩
                  have HJ := Lib.hid hJ'
                  have hrd6 := hrd.ext hff6.1
                  have hrl := hl6
                  have a6 : ∀ W, Ext w6 W → W.cell? ⟨wr.heap.size, 1, none⟩ = some (.slice D dl.length dc) := fun W hW => blk_cell (i := 1) hA7 hW rfl
                  clear hJ' hb3 hl3 hx3 hb6 hst6 hff6 hr6 hA7 hn2 HR3 hfl hof hof2 y5 p0 p1 p2 q0 q1 q2 f0 f1 f2
                  go_wp2_with fail
                  refine Lex.wp_region_u [0, 1, 2, 3, 4, 5, 6, 7, 8, 9, 10] [] [] (by kernel_rfl) (by kernel_rfl) (by repeat (first | exact Lex.st_nil | refine Lex.st_cons (by first | exact Lex.nums_st | exact Lex.const_st | exact Lex.such_st | exact Lex.row_st | exact Lex.rowE_st | exact Lex.litR_st | assumption) ?_)) ?_; simp only [Lex.pick, List.getElem?_cons_succ, List.getElem?_cons_zero, List.map_cons, List.map_nil]
                  have i1 : (xs.length : Int) ≤ cl := by omega
                  have i3 : (0 : Int) ≤ xs.length := by omega
                  repeat (first | (refine Lex.lexU_skip (by rfl) ?_; simp only [Act.put, List.setIfInBounds_toArray, List.set_cons_zero, List.set_cons_succ]) | (refine Lex.lexU_still (by rfl) (by rfl) (by first | exact Base.Ext.refl | exact Lex.Fill.refl) ?_; apply Exists.intro; refine ⟨fun W hW => ?_, ?_⟩; (have hE := Lex.ext_of_cls hW.1; have hE2 := Lex.ext_drew hE; clear hW; go_simp; try with_reducible rfl); simp only [Act.put, List.setIfInBounds_toArray, List.set_cons_zero, List.set_cons_succ]))
                  refine Lex.lexU_such (by rfl) (by rfl) (Lex.blkL 1 22 #[.slice D dl.length dc]) (Lex.blkL_st) (fun W hW => ?_) ?_
                  · have hE := Lex.ext_drew (Lex.ext_of_cls hW.1)
                    clear hW
                    go_simp
                    exact ⟨⟨_, rfl⟩, Ext.new _ _, Lex.blkL_mk⟩
                  rintro v ⟨g7, rfl⟩
                  simp only [Act.put, List.setIfInBounds_toArray, List.set_cons_zero, List.set_cons_succ]
                  repeat (first | (refine Lex.lexU_skip (by rfl) ?_; simp only [Act.put, List.setIfInBounds_toArray, List.set_cons_zero, List.set_cons_succ]) | (refine Lex.lexU_still (by rfl) (by rfl) (by first | exact Base.Ext.refl | exact Lex.Fill.refl) ?_; apply Exists.intro; refine ⟨fun W hW => ?_, ?_⟩; (have hE := Lex.ext_of_cls hW.1; have hE2 := Lex.ext_drew hE; clear hW; go_simp; try with_reducible rfl); simp only [Act.put, List.setIfInBounds_toArray, List.set_cons_zero, List.set_cons_succ]))
                  refine Lex.lexU_such (by rfl) (by rfl) (allL (And1 (Or2 St6 Sd6) gr) (xs.length + 1) (xs ++ [dl])) (allL_st) (fun W hW => ?_) ?_
                  · have hE := Lex.ext_drew (Lex.ext_of_cls hW.1)
                    have h7 := Lex.upd_here (hW.2 8 (by kernel_rfl)) _ rfl
                    clear hW
                    obtain ⟨A9, c9, W9, hrun, he9, hc9, hl9⟩ := run_all W _ AL xs (hrl.ext hE) hxl g7 D dl.length dc dl h7 hcap (hrd6.ext hE) hof6 (fun i hi => Nat.lt_of_lt_of_le (hlt6 i hi) hE.size)
                    rw [Lex.exec_append _ _ _ rfl rfl rfl hrun]
                    exact ⟨⟨A9, c9, rfl, hc9⟩, he9, fun _ _ e => by cases e; exact hl9⟩
                  rintro v ⟨A9, c9, rfl, hc9⟩
                  simp only [Act.put, List.setIfInBounds_toArray, List.set_cons_zero, List.set_cons_succ]
                  repeat (first | (refine Lex.lexU_skip (by rfl) ?_; simp only [Act.put, List.setIfInBounds_toArray, List.set_cons_zero, List.set_cons_succ]) | (refine Lex.lexU_still (by rfl) (by rfl) (by first | exact Base.Ext.refl | exact Lex.Fill.refl) ?_; apply Exists.intro; refine ⟨fun W hW => ?_, ?_⟩; (have hE := Lex.ext_of_cls hW.1; have hE2 := Lex.ext_drew hE; clear hW; go_simp; try with_reducible rfl); simp only [Act.put, List.setIfInBounds_toArray, List.set_cons_zero, List.set_cons_succ]))
                  refine Lex.lexU_nil (fun W hW => ?_)
                  have hE := Lex.ext_drew (Lex.ext_of_cls hW.1)
                  have h9 := HJ.out _ _ _ hE ((hW.2 9).2 rfl _ _ rfl) hc9
                  clear hW
                  refine Lex.onlyN_intro ?_
                  go_wp2_with fail
                  go_meet
                  exact ⟨rfl, h9⟩
          case rest =>
            obtain ⟨rfl, g2, St2, Sd2, A2, n2, c2, B2, m2, d2, ss2, ls2, AL2, cl2, xs2, ns2, rfl, rfl, rfl, hcl2, hs2⟩ := hcut
            clear hs4 HLT HA4 x0 y1 y2 y3 hcl
            go_wp2_with fail
            refine (len_calls Sd2 g2 gt xs2 ns2 _ hs2.b.d).mono ?_
            rintro e w9 ⟨rfl, he9⟩
            have hs9 := hs2.ext_ he9
            have hsh2 := hs2.short
            have hc12 := hs2.c1
            have HL2 := Lib.hid hs2.len2
            clear hs2 he9
            obtain ⟨p0, p1, p2⟩ := hs9.ref.cells
            have hrs : (rowsL xs2.length xs2).St Base.Ext := rowsL_st
            go_wp2_with fail
            refine Lex.wp_region_ext [(15, rowsL xs2.length xs2), (17, .const (.bool true)), (22, .row w 5 .u8 (n2 + m2) (ss2 ++ ls2)), (25, .row w 5 .u8 (n2 + m2) (ss2 ++ ls2))] (by kernel_rfl) (by kernel_rfl) (by repeat (first | exact Lex.st_nil | refine Lex.st_cons (by first | exact Lex.nums_st | exact Lex.const_st | exact Lex.such_st | exact Lex.row_st | exact Lex.rowE_st | exact Lex.litR_st | assumption) ?_)) ?_
            clear hrs
            repeat (first | (refine Lex.lex_skip (by rfl) ?_; simp only [Act.put, List.setIfInBounds_toArray, List.set_cons_zero, List.set_cons_succ]) | (refine Lex.lex_still (by rfl) (by rfl) ?_; apply Exists.intro; refine ⟨fun W hW => ?_, ?_⟩; (have hE := hW.1; have hE2 := Base.Ext.trans (Base.Ext.drew (Base.Ext.refl _)) hW.1; clear hW; go_simp; try with_reducible rfl); simp only [Act.put, List.setIfInBounds_toArray, List.set_cons_zero, List.set_cons_succ]))
            refine Lex.lex_loose (by rfl) (by rfl) (fun W hW => ?_) ?_
            · have hE := drew_ext hW.1
              go_simp
              refine (drecords_calls Sd2 g2 gt xs2 ns2 _ (hs9.b.d.ext hE) (by omega) (fun x hx => by have := hs9.len x hx; omega)).mono ?_
              rintro e w10 ⟨he10, A10, c10, rfl, hr10⟩
              exact ⟨_, rfl, ⟨A10, c10, rfl⟩, he10, fun _ _ e => by cases e; exact hr10.reads⟩
            rintro v ⟨A15, c15, rfl⟩
            simp only [Act.put, List.setIfInBounds_toArray, List.set_cons_zero, List.set_cons_succ]
            repeat (first | (refine Lex.lex_skip (by rfl) ?_; simp only [Act.put, List.setIfInBounds_toArray, List.set_cons_zero, List.set_cons_succ]) | (refine Lex.lex_still (by rfl) (by rfl) ?_; apply Exists.intro; refine ⟨fun W hW => ?_, ?_⟩; (have hE := hW.1; have hE2 := Base.Ext.trans (Base.Ext.drew (Base.Ext.refl _)) hW.1; clear hW; go_simp; try with_reducible rfl); simp only [Act.put, List.setIfInBounds_toArray, List.set_cons_zero, List.set_cons_succ]))
            refine Lex.lex_loose (by rfl) (by rfl) (fun W hW => ?_) ?_
            · have hE := drew_ext hW.1
              have hq := Lex.upd_here (hW.2 15 (by kernel_rfl)) _ _ rfl
              go_simp
              refine (DiaryRef.same_calls A15 xs2.length c15 AL2 cl2 xs2 _ hq (hs9.lies.reads.ext hE)).mono ?_
              rintro e w10 ⟨rfl, he10⟩
              exact ⟨_, rfl, rfl, he10, trivial⟩
            rintro v rfl
            simp only [Act.put, List.setIfInBounds_toArray, List.set_cons_zero, List.set_cons_succ]
            repeat (first | (refine Lex.lex_skip (by rfl) ?_; simp only [Act.put, List.setIfInBounds_toArray, List.set_cons_zero, List.set_cons_succ]) | (refine Lex.lex_still (by rfl) (by rfl) ?_; apply Exists.intro; refine ⟨fun W hW => ?_, ?_⟩; (have hE := hW.1; have hE2 := Base.Ext.trans (Base.Ext.drew (Base.Ext.refl _)) hW.1; clear hW; go_simp; try with_reducible rfl); simp only [Act.put, List.setIfInBounds_toArray, List.set_cons_zero, List.set_cons_succ]))
            refine Lex.lex_loose (by rfl) (by rfl) (fun W hW => ?_) ?_
            · have hE := drew_ext hW.1
              go_simp
              refine (Tape.read_calls St2 gt _ _ _ _ (hs9.b.t.ext hE) (by rw [HL2.out]; omega)).mono ?_
              rw [HL2.out]
              rintro e w10 ⟨he10, A10, c10, rfl, ho10⟩
              exact ⟨_, rfl, ⟨A10, c10, rfl, ho10.cap.1⟩, he10, Lex.row_mk (ho10.mono fun i _ hi => Nat.le_trans (hs9.ext.trans hE).size hi)⟩
            rintro v ⟨A10, c10, rfl, -⟩
            simp only [Act.put, List.setIfInBounds_toArray, List.set_cons_zero, List.set_cons_succ]
            refine Lex.lex_still (by rfl) (by rfl) ?_; apply Exists.intro; refine ⟨fun W hW => ?_, ?_⟩
            · have q := run_string (P := Try.prog) 22 9 5 c10 Try.underlying22 Try.underlying5 Try.underlying9 ((Lex.upd_here (hW.2 22 (by kernel_rfl)) _ _ rfl).rd hs9.b.t.wf)
              go_simp
              try with_reducible rfl
            simp only [Act.put, List.setIfInBounds_toArray, List.set_cons_zero, List.set_cons_succ]
            repeat (first | (refine Lex.lex_skip (by rfl) ?_; simp only [Act.put, List.setIfInBounds_toArray, List.set_cons_zero, List.set_cons_succ]) | (refine Lex.lex_still (by rfl) (by rfl) ?_; apply Exists.intro; refine ⟨fun W hW => ?_, ?_⟩; (have hE := hW.1; have hE2 := Base.Ext.trans (Base.Ext.drew (Base.Ext.refl _)) hW.1; clear hW; go_simp; try with_reducible rfl); simp only [Act.put, List.setIfInBounds_toArray, List.set_cons_zero, List.set_cons_succ]))
            refine Lex.lex_loose (by rfl) (by rfl) (fun W hW => ?_) ?_
            · have hE := drew_ext hW.1
              have h9 := hs9.ref.ext hE
              go_simp
              refine (Ref13.all_calls A2 n2 c2 ss2 B2 m2 d2 ls2 M _ h9.a h9.b (by omega) (by omega)).mono ?_
              rintro e w10 ⟨he10, A11, c11, rfl, ho10⟩
              exact ⟨_, rfl, ⟨A11, c11, rfl, ho10.cap.1⟩, he10, Lex.row_mk (ho10.mono fun i _ hi => Nat.le_trans (hs9.ext.trans hE).size hi)⟩
            rintro v ⟨A11, c11, rfl, -⟩
            simp only [Act.put, List.setIfInBounds_toArray, List.set_cons_zero, List.set_cons_succ]
            refine Lex.lex_still (by rfl) (by rfl) ?_; apply Exists.intro; refine ⟨fun W hW => ?_, ?_⟩
            · have q := run_string (P := Try.prog) 22 9 5 c11 Try.underlying22 Try.underlying5 Try.underlying9 ((Lex.upd_here (hW.2 25 (by kernel_rfl)) _ _ rfl).rd hs9.b.t.wf)
              go_simp
              try with_reducible rfl
            simp only [Act.put, List.setIfInBounds_toArray, List.set_cons_zero, List.set_cons_succ]
            repeat (first | (refine Lex.lex_skip (by rfl) ?_; simp only [Act.put, List.setIfInBounds_toArray, List.set_cons_zero, List.set_cons_succ]) | (refine Lex.lex_still (by rfl) (by rfl) ?_; apply Exists.intro; refine ⟨fun W hW => ?_, ?_⟩; (have hE := hW.1; have hE2 := Base.Ext.trans (Base.Ext.drew (Base.Ext.refl _)) hW.1; clear hW; go_simp; try with_reducible rfl); simp only [Act.put, List.setIfInBounds_toArray, List.set_cons_zero, List.set_cons_succ]))
            refine Lex.lex_nil (fun W hW => ?_)
            have hJ2 : J w gt gr M (k + 1) W (.pointer (some ⟨g2, 0, none⟩)) (.slice AL2 xs2.length cl2) (.int .i64 ns2) := ⟨g2, St2, Sd2, A2, n2, c2, B2, m2, d2, ss2, ls2, AL2, cl2, xs2, ns2, rfl, rfl, rfl, hcl2, hs9.ext_ (drew_ext hW.1)⟩
            clear hW hs9 p0 p1 p2
            go_wp2_with fail
            go_roundw
            case rel => exact ⟨k + 1, rfl, by go_num, by omega, by omega, hJ2⟩
            case measure => simp [intOf]; omega
      · obtain ⟨g2, St2, Sd2, A2, n2, c2, B2, m2, d2, ss2, ls2, AL2, cl2, xs2, ns2, rfl, rfl, rfl, hcl2, hs2⟩ := hJ
        have hd := hs2.b.d
        have hc12 := hs2.c1
        have hsh2 := hs2.short
        have HX := Lib.hid hs2.ext
        clear hs2
        by_cases hkn2 : k < n
        all_goals
          first | (have hk40' : ¬ (k : Int) < 40 := by omega) | skip
          go_wp2_with fail
          refine (get_no Sd2 g2 gt xs2 ns2 _ hd _ (by omega)).mono ?_
          rintro e w5 ⟨rfl, rfl⟩
          go_wp2_with fail
          refine (get_no Sd2 g2 gt xs2 ns2 _ hd _ (by omega)).mono ?_
          rintro e w5 ⟨rfl, rfl⟩
          go_wp2_with fail
          refine (awake_calls _).mono ?_
          rintro e w5 ⟨rfl, he5⟩
          go_wp2_with fail
          go_ret
          exact ⟨rfl, HX.out.trans he5⟩
end Go.Proofs.Ytfhgjopoohfhjaa.DiaryPlaysW
