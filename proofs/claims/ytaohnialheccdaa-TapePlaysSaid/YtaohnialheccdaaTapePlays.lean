import Derived.Test.YtaohnialheccdaaTapeKeeps
import Derived.Test.YtaohnialheccdaaRef13
import Derived.Test.YtaohnialheccdaaShape
namespace Go.Proofs.Ytaohnialheccdaa.TapePlaysW
open Go.RowKit Base Step Tape
open TapeP (kept crash turn)
open Shape (Sh Fs)

def actS : Sh := .st (.cons (.int .i64) (.cons (.sl (.int .u8)) (.cons (.int .i64) (.cons (.int .u8) .nil))))
abbrev Act := Int × (Option Addr × Nat × Nat × List Int) × Int × Int × Unit

/-- The document's tape in block gr; what it reads lies off S and off gr. -/
structure Ref (S : Nat → Prop) (gr : Nat) (most : Int) (wr : World) (A : Option Addr) (n c : Nat) (B : Option Addr) (m d : Nat) (ss ls : List Int) : Prop where
  off : ¬ S gr
  r : wr.heap[gr]? = some (.cells #[.slice A n c, .slice B m d, .int .i64 most] 70 (0, 0))
  a : Rd wr .u8 A n ss
  ao : Off (And1 S gr) A n
  b : Rd wr .u8 B m ls
  bo : Off (And1 S gr) B m
  cap : m ≤ d
theorem Ref.lt {S : Nat → Prop} {gr : Nat} {most : Int} {wr : World} {A : Option Addr} {n c : Nat} {B : Option Addr} {m d : Nat} {ss ls : List Int} (h : Ref S gr most wr A n c B m d ss ls) : gr < wr.heap.size := (Array.getElem?_eq_some_iff.1 h.r).1
theorem Ref.step {S S' : Nat → Prop} {gr : Nat} {most : Int} {wr wr' : World} {A : Option Addr} {n c : Nat} {B : Option Addr} {m d : Nat} {ss ls : List Int} (h : Ref S gr most wr A n c B m d ss ls) (hs : Step S S' wr wr') : Ref S' gr most wr' A n c B m d ss ls :=
  ⟨hs.not h.off h.lt, hs.chg.at_ h.r h.off, rd_step h.a h.ao (hs.and1 gr), h.ao.step h.a (hs.and1 gr), rd_step h.b h.bo (hs.and1 gr), h.bo.step h.b (hs.and1 gr), h.cap⟩
theorem Ref.ext {S : Nat → Prop} {gr : Nat} {most : Int} {wr wr' : World} {A : Option Addr} {n c : Nat} {B : Option Addr} {m d : Nat} {ss ls : List Int} (h : Ref S gr most wr A n c B m d ss ls) (he : Ext wr wr') : Ref S gr most wr' A n c B m d ss ls :=
  ⟨h.off, he.at_ h.r, h.a.ext he, h.ao, h.b.ext he, h.bo, h.cap⟩
theorem Ref.cells {S : Nat → Prop} {gr : Nat} {most : Int} {wr : World} {A : Option Addr} {n c : Nat} {B : Option Addr} {m d : Nat} {ss ls : List Int} (h : Ref S gr most wr A n c B m d ss ls) :
    (∀ W, Ext wr W → W.cell? ⟨gr, 0, none⟩ = some (.slice A n c)) ∧ (∀ W, Ext wr W → W.cell? ⟨gr, 1, none⟩ = some (.slice B m d)) ∧ (∀ W, Ext wr W → W.cell? ⟨gr, 2, none⟩ = some (.int .i64 most)) :=
  ⟨fun _ he => blk_cell h.r he rfl, fun _ he => blk_cell h.r he rfl, fun _ he => blk_cell h.r he rfl⟩
/-- A new value is stored. -/
theorem Ref.put {S : Nat → Prop} {gr : Nat} {most : Int} {wr : World} {A A' : Option Addr} {n c n' c' : Nat} {B B' : Option Addr} {m d m' d' : Nat} {ss ls ss' ls' : List Int} (h : Ref S gr most wr A n c B m d ss ls)
    (ha : Rd wr .u8 A' n' ss') (hao : Off (And1 S gr) A' n') (hb : Rd wr .u8 B' m' ls') (hbo : Off (And1 S gr) B' m') (hcap : m' ≤ d') :
    Ref S gr most (((wr.setCell ⟨gr, 0, none⟩ (.slice A' n' c')).setCell ⟨gr, 1, none⟩ (.slice B' m' d')).setCell ⟨gr, 2, none⟩ (.int .i64 most)) A' n' c' B' m' d' ss' ls' := by
  have hk : ∀ (A : Option Addr) (n : Nat) (xs : List Int), Rd wr .u8 A n xs → Off (And1 S gr) A n → Rd (((wr.setCell ⟨gr, 0, none⟩ (.slice A' n' c')).setCell ⟨gr, 1, none⟩ (.slice B' m' d')).setCell ⟨gr, 2, none⟩ (.int .i64 most)) .u8 A n xs := fun A n xs hr ho =>
    hr.keep fun ad ha h0 => by
      have hne : gr ≠ ad.block := fun e => ho h0 ad ha (.inr e.symm)
      rw [Below.heap_setCell _ _ _ _ hne.symm, Below.heap_setCell _ _ _ _ hne.symm, Below.heap_setCell _ _ _ _ hne.symm]
  exact ⟨h.off, set_blk (set_blk (set_blk h.r _) _) _, hk _ _ _ ha hao, hao, hk _ _ _ hb hbo, hbo, hcap⟩
theorem put_chg (wr : World) (gr : Nat) (u0 u1 u2 : Value) : Chg (fun i => i = gr) wr (((wr.setCell ⟨gr, 0, none⟩ u0).setCell ⟨gr, 1, none⟩ u1).setCell ⟨gr, 2, none⟩ u2) :=
  Chg.setCell (S := fun i => i = gr) (Chg.setCell (S := fun i => i = gr) (Chg.setCell (S := fun i => i = gr) (Chg.refl _ _) (p := ⟨gr, 0, none⟩) rfl _) (p := ⟨gr, 1, none⟩) rfl _) (p := ⟨gr, 2, none⟩) rfl _
/-- The program's tape and the document's say the same. -/
structure Same (w : World) (g gr : Nat) (most : Int) (k : Nat) (wr : World) (S : Nat → Prop) (A : Option Addr) (n c : Nat) (B : Option Addr) (m d : Nat) (ss ls : List Int) : Prop where
  t : Tape.Tape wr S g (ss ++ ls) n most
  fresh : Fresh w S
  ref : Ref S gr most wr A n c B m d ss ls
  new : w.heap.size ≤ gr
  short : n + m ≤ 500 * k
  ext : Ext w wr
theorem Same.ext_ {w : World} {g gr : Nat} {most : Int} {k : Nat} {wr wr' : World} {S : Nat → Prop} {A : Option Addr} {n c : Nat} {B : Option Addr} {m d : Nat} {ss ls : List Int} (h : Same w g gr most k wr S A n c B m d ss ls) (he : Ext wr wr') : Same w g gr most k wr' S A n c B m d ss ls :=
  ⟨h.t.ext he, h.fresh, h.ref.ext he, h.new, h.short, h.ext.trans he⟩
theorem Same.lt {w : World} {g gr : Nat} {most : Int} {k : Nat} {wr : World} {S : Nat → Prop} {A : Option Addr} {n c : Nat} {B : Option Addr} {m d : Nat} {ss ls : List Int} (h : Same w g gr most k wr S A n c B m d ss ls) : ∀ i, And1 S gr i → i < wr.heap.size :=
  fun i hi => hi.elim (h.t.lt i) fun e => by rw [e]; exact h.ref.lt
theorem Same.len {w : World} {g gr : Nat} {most : Int} {k : Nat} {wr : World} {S : Nat → Prop} {A : Option Addr} {n c : Nat} {B : Option Addr} {m d : Nat} {ss ls : List Int} (h : Same w g gr most k wr S A n c B m d ss ls) : (ss ++ ls).length = n + m := by
  rw [List.length_append, h.ref.a.len, h.ref.b.len]
/-- Behind a call of the program's tape. -/
theorem Same.step {w : World} {g gr : Nat} {most : Int} {k : Nat} {wr wr' : World} {S S' : Nat → Prop} {A : Option Addr} {n c : Nat} {B : Option Addr} {m d : Nat} {ss ls : List Int} (h : Same w g gr most k wr S A n c B m d ss ls) (hs : Step S S' wr wr') : Ext w wr' ∧ Fresh w S' ∧ Ref S' gr most wr' A n c B m d ss ls :=
  ⟨(fresh_step h.ext h.fresh hs).1, (fresh_step h.ext h.fresh hs).2, h.ref.step hs⟩
/-- Behind the store of the document's tape. -/
theorem j_put {w : World} {g gr : Nat} {most : Int} {k : Nat} {wr : World} {S : Nat → Prop} {A A' : Option Addr} {n c n' c' : Nat} {B B' : Option Addr} {m d m' d' : Nat} {ss ls ss' ls' : List Int} (ht : Tape.Tape wr S g (ss' ++ ls') n' most) (hf : Fresh w S) (hr : Ref S gr most wr A n c B m d ss ls) (hnew : w.heap.size ≤ gr) (he : Ext w wr)
    (ha : Rd wr .u8 A' n' ss') (hao : Off (And1 S gr) A' n') (hb : Rd wr .u8 B' m' ls') (hbo : Off (And1 S gr) B' m') (hcap : m' ≤ d') (hs : n' + m' ≤ 500 * k) :
    ∃ S A n c B m d ss ls, Same w g gr most k (((wr.setCell ⟨gr, 0, none⟩ (.slice A' n' c')).setCell ⟨gr, 1, none⟩ (.slice B' m' d')).setCell ⟨gr, 2, none⟩ (.int .i64 most)) S A n c B m d ss ls :=
  ⟨S, A', n', c', B', m', d', ss', ls', ht.chg (put_chg wr gr _ _ _) fun _ hi e => hr.off (e ▸ hi), hf, hr.put ha hao hb hbo hcap, hnew, hs, he.chg (put_chg wr gr _ _ _) fun i hi => by rw [hi]; exact hnew⟩
theorem j_put1 {w : World} {g gr : Nat} {most : Int} {k : Nat} {wr : World} {S : Nat → Prop} {A : Option Addr} {n c : Nat} {B : Option Addr} {m d : Nat} {ss ls : List Int} (ht : Tape.Tape wr S g ss n most) (hf : Fresh w S) (hr : Ref S gr most wr A n c B m d ss ls) (hnew : w.heap.size ≤ gr) (he : Ext w wr) (hs : n ≤ 500 * k) :
    ∃ S A n c B m d ss ls, Same w g gr most k (wr.setCell ⟨gr, 1, none⟩ (.slice none 0 0)) S A n c B m d ss ls :=
  have hc : Chg (fun i => i = gr) wr (wr.setCell ⟨gr, 1, none⟩ (.slice none 0 0)) := Chg.setCell (S := fun i => i = gr) (Chg.refl _ _) (p := ⟨gr, 1, none⟩) rfl _
  ⟨S, A, n, c, none, 0, 0, ss, [], by rw [List.append_nil]; exact ht.chg hc fun _ hi e => hr.off (e ▸ hi), hf,
    ⟨hr.off, set_blk hr.r _, hr.a.chg hc fun ad ha h0 e => hr.ao h0 ad ha (.inr e), hr.ao, rd_nil _ _ _, Off.zero _ _, Nat.le_refl _⟩, hnew, hs, he.chg hc fun i hi => by rw [hi]; exact hnew⟩
theorem crash_wf {xs : List Int} (h : ∀ x ∈ xs, (Lit.int .u8 x).wf = true) (safe : Nat) (keep bits : Int) : ∀ x ∈ crash xs safe keep bits, (Lit.int .u8 x).wf = true := by
  intro x hx
  unfold crash at hx
  split at hx
  · rcases List.mem_or_eq_of_mem_set hx with h1 | h1
    · exact h x (List.mem_of_mem_take h1)
    · rw [h1]
      exact u8_wf (TapeP.bits_u8 _ _).1 (TapeP.bits_u8 _ _).2
  · exact h x (List.mem_of_mem_take hx)
def J (w : World) (g gr : Nat) (most : Int) (k : Nat) (wr : World) : Prop := ∃ S A n c B m d ss ls, Same w g gr most k wr S A n c B m d ss ls
theorem actcells (x : Act) : actS.cells x = [.int .i64 x.1, .slice x.2.1.1 x.2.1.2.1 x.2.1.2.2.1, .int .i64 x.2.2.1, .int .u8 x.2.2.2.1] := rfl

set_option maxRecDepth 100000 in
set_option maxHeartbeats 16000000 in
theorem walk (most : Int) (A : Option Addr) (n c : Nat) (l : List Act) (w : World) (hm : (Lit.int .i64 most).wf = true) (hl : (Sh.sl actS).ok w (A, n, c, l)) :
    Calls Try.prog 9 #[.int .i64 most, .slice A n c] w fun e w' => e = .returned (.bool true) ∧ Below w.heap.size w w' := by
  have HM := Lib.hid hm
  obtain ⟨hm0, hm1⟩ := wf_i64 hm
  have HL := Lib.hid hl
  have hn : n ≤ 9223372036854775807 := by have h1 := hl.2.1; have h2 := hl.2.2.1; simp only [maxLen] at h2; exact Nat.le_trans h1 (by omega)
  clear hm hl
  go_enter Try.func9, Try.ntmps9
  go_wp2_with fail
  refine (TapeKeepsW.awake_calls _).mono ?_
  rintro e w1 ⟨rfl, he1⟩
  have HMX : Hid (max most 0 = if 0 ≤ most then most else 0) := Lib.hid (by split <;> omega)
  have hM0 : 0 ≤ max most 0 := by omega
  have hM1 : max most 0 ≤ 9223372036854775807 := by omega
  go_upto_region 3 with fail
  go_cut [5, 6] (fun t r wx => ∃ g gr : Nat, t = .pointer (some ⟨g, 0, none⟩) ∧ r = .pointer (some ⟨gr, 0, none⟩) ∧ J w g gr (max most 0) 0 wx)
  case first =>
    go_wp2_with (go_at_call 29; refine (new_calls most _ HM.out).mono ?_; rintro e w2 ⟨rfl, he2, ht2⟩)
    all_goals
      go_meet
      have hlt := ht2.lt _ rfl
      refine ⟨w1.heap.size, w2.heap.size, rfl, rfl, _, none, 0, 0, none, 0, 0, [], [], (ht2.ext (Ext.new _ _)), fun i (hi : i = w1.heap.size) => by subst hi; exact he1.size, ⟨fun (h : w2.heap.size = w1.heap.size) => by omega, ?_, rd_nil _ _ _, Off.zero _ _, rd_nil _ _ _, Off.zero _ _, Nat.le_refl _⟩, (he1.trans he2).size, Nat.le_refl _, (he1.trans he2).alloc _⟩
      first | (rw [show max most 0 = 0 by omega]; exact at_new _ _) | (rw [show max most 0 = most by omega]; exact at_new _ _)
  case rest =>
    obtain ⟨g, gr, rfl, rfl, hJ⟩ := hcut
    clear HMX
    generalize max most 0 = M at *
    go_wp2_with fail
    go_loopw [7] (fun i wr => ∃ k : Nat, i = .int .i64 k ∧ k ≤ n ∧ k ≤ 50 ∧ J w g gr M k wr) (fun i _ => 50 - (intOf i).toNat)
    case atStart => exact ⟨0, rfl, Nat.zero_le _, by omega, hJ⟩
    case round =>
      clear hJ
      obtain ⟨k, rfl, hkn, hk50, hJ⟩ := hrel
      by_cases hlt : k < n ∧ k < 50
      · obtain ⟨hlt, hlt50⟩ := hlt
        obtain ⟨h1, h2, h3, h4, h5⟩ : l.length = n ∧ n ≤ c ∧ c ≤ maxLen ∧ (A = none → c = 0) ∧ ∀ i (x : Act), l[i]? = some x → actS.ok w x ∧ ∃ ad, A = some ad ∧ ∀ j u, (actS.cells x)[j]? = some u → w.cell? (ad.add (i * actS.size + j)) = some u := HL.out
        obtain ⟨x, hx⟩ : ∃ x, l[k]? = some x := ⟨_, List.getElem?_eq_getElem (by omega)⟩
        obtain ⟨hxo, ad, rfl, hxc⟩ := h5 k x hx
        rw [actcells] at hxc
        obtain ⟨kind, ⟨D, dn, dc, dl⟩, N, bits, u⟩ := x
        obtain ⟨S, A1, n1, c1, B1, m1, d1, ss, ls, hs⟩ := hJ
        have hkw : (Lit.int .i64 kind).wf = true := hxo.1
        have hNw : (Lit.int .i64 N).wf = true := hxo.2.2.1
        have hbw : (Lit.int .u8 bits).wf = true := hxo.2.2.2.1
        have hrd : Rd w .u8 D dn dl := Shape.rd_of_ok (c := dc) hxo.2.1
        have hcap : dn ≤ dc := hxo.2.1.2.1
        have x0 := hs.ext.cell_ (hxc 0 _ rfl)
        have x1 := hs.ext.cell_ (hxc 1 _ rfl)
        have x2 := hs.ext.cell_ (hxc 2 _ rfl)
        have x3 := hs.ext.cell_ (hxc 3 _ rfl)
        have hsz : actS.size = 4 := rfl
        rw [hsz] at x0 x1 x2 x3
        rw [← add_of_add] at x1 x2 x3
        rw [Nat.add_zero] at x0
        have y1 : wr.cell? ⟨(ad.add (k * 4)).block, (ad.add (k * 4)).off + 1, none⟩ = some (.slice D dn dc) := x1
        have y2 : wr.cell? ⟨(ad.add (k * 4)).block, (ad.add (k * 4)).off + 2, none⟩ = some (.int .i64 N) := x2
        have y3 : wr.cell? ⟨(ad.add (k * 4)).block, (ad.add (k * 4)).off + 3, none⟩ = some (.int .u8 bits) := x3
        clear h1 h2 h3 h4 h5 hxo hxc hx x1 x2 x3 hsz
        have hs4 := hs.ext_ (Ext.new wr (.cells #[.int .i64 kind, .slice D dn dc, .int .i64 N, .int .u8 bits] 72))
        obtain ⟨r0, r1, r2⟩ := hs.ref.cells
        have hE4 := Ext.new wr (.cells #[.int .i64 kind, .slice D dn dc, .int .i64 N, .int .u8 bits] 72)
        have hlen := hs.len
        have hsh := hs.short
        have HLEN := Lib.hid hlen
        clear hlen
        go_wp2_with fail
        · refine (TapeKeepsW.awake_calls _).mono ?_
          rintro e w5 ⟨rfl, he5⟩
          go_wp2_with fail
          go_ret
          exact ⟨rfl, hs4.ext.trans he5⟩
        focus
          clear r0 r1 r2
          refine (Tape.sync_calls _ _ _ _ _ _ hs4.t).mono ?_
          rintro e w5 ⟨rfl, ht5, hst5⟩
          obtain ⟨hx5, hf5, hr5⟩ := hs4.step hst5
          obtain ⟨r0, r1, r2⟩ := hr5.cells
          have r0 := r0 _ (Ext.refl _)
          have r1 := r1 _ (Ext.refl _)
          have r2 := r2 _ (Ext.refl _)
          rw [HLEN.out] at ht5
          go_wp2_with fail
          refine (Ref13.sync_calls A1 n1 c1 ss B1 m1 d1 ls M _ hr5.a hr5.b (by omega) (by omega)).mono ?_
          rintro e w6 ⟨he6, A6, c6, rfl, ho6⟩
          have hr6 := hr5.ext he6
          have hbb := fun i (hi : And1 S gr i) => hi.elim (ht5.lt i) fun e => by rw [e]; exact hr5.lt
          have hJ' : J w g gr M (k + 1) _ := j_put (c' := c6) (d' := 0) (by rw [List.append_nil]; exact ht5.ext he6) hf5 hr6 hs.new (hx5.trans he6) (ho6.rd (wf_append hr5.a.wf hr5.b.wf)) (Off.new ho6 hbb) (rd_nil _ _ none) (Off.zero _ _) (Nat.le_refl _) (by omega)
          have q0 := hr6.cells.1 _ (Ext.refl _)
          have q1 := hr6.cells.2.1 _ (Ext.refl _)
          have q2 := hr6.cells.2.2 _ (Ext.refl _)
          have f0 := Pack.free_of hr6.r 0
          have f1 := Pack.free_of hr6.r 1
          have f2 := Pack.free_of hr6.r 2
          clear hs4 hs ht5 hst5 hf5 hr5 hr6 ho6 he6 hx5 hbb
          go_wp2_with fail
        rotate_left
        focus
          go_region_held3 (fun W => W.cell? ⟨gr, 1, none⟩ = some (.slice B1 m1 d1)) (first | exact r1 _ hE4.drew | exact hq5) ((go_at_call 40; refine (Tape.back_calls S g _ _ _ _ (hs4.t.ext (Ext.refl _).drew)).mono ?_; rintro e w5 ⟨rfl, ht5, hst5⟩; obtain ⟨hx5, hf5, hr5⟩ := hs4.step (extStep (Ext.refl _).drew hst5); have hq5 := hr5.cells.2.1 _ (Ext.refl _); rw [show ((List.length (ss ++ ls) : Nat) : Int) - n1 = m1 from by rw [HLEN.out]; omega]))
          have htk : (ss ++ ls).take n1 = ss := by rw [← hr5.a.len, List.take_left']; rfl
          rw [htk] at ht5
          have hJ' : J w g gr M (k + 1) _ := j_put1 ht5 hf5 hr5 hs.new hx5 (by omega)
          have f1 := Pack.free_of hr5.r 1
          clear hs4 hs ht5 hst5 hf5 hr5 hx5 htk r0 r1 r2
          go_wp2_with fail
        rotate_left
        focus
          have hA4 : (wr.alloc (.cells #[.int .i64 kind, .slice D dn dc, .int .i64 N, .int .u8 bits] 72)).heap[wr.heap.size]? = some (.cells #[.int .i64 kind, .slice D dn dc, .int .i64 N, .int .u8 bits] 72 (0, 0)) := at_new _ _
          clear r0 r1 r2
          refine (Ref13.crash_calls A1 n1 c1 ss B1 m1 d1 ls M N bits _ hs4.ref.a hs4.ref.b (by omega) (by omega) hs4.ref.cap hNw hbw).mono ?_
          rintro e w5 ⟨he5, A5, c5, rfl, ho5⟩
          have hr6 := (hs4.ref.ext he5).ext (Ext.new w5 (.cells #[.slice A5 (n1 + kept N m1) c5, .slice none 0 0, .int .i64 M] 70))
          have q0 := hr6.cells.1 _ (Ext.refl _)
          have q1 := hr6.cells.2.1 _ (Ext.refl _)
          have q2 := hr6.cells.2.2 _ (Ext.refl _)
          have f0 := Pack.free_of hr6.r 0
          have f1 := Pack.free_of hr6.r 1
          have f2 := Pack.free_of hr6.r 2
          have hE6 : Ext (wr.alloc (.cells #[.int .i64 kind, .slice D dn dc, .int .i64 N, .int .u8 bits] 72)) (w5.alloc (.cells #[.slice A5 (n1 + kept N m1) c5, .slice none 0 0, .int .i64 M] 70)) := he5.trans (Ext.new _ _)
          have hlt6 := hs.ref.lt
          have hA7 : ((((w5.alloc (.cells #[.slice A5 (n1 + kept N m1) c5, .slice none 0 0, .int .i64 M] 70)).setCell ⟨gr, 0, none⟩ (.slice A5 (n1 + kept N m1) c5)).setCell ⟨gr, 1, none⟩ (.slice none 0 0)).setCell ⟨gr, 2, none⟩ (.int .i64 M)).heap[wr.heap.size]? = some (.cells #[.int .i64 kind, .slice D dn dc, .int .i64 N, .int .u8 bits] 72 (0, 0)) :=
            (put_chg _ gr _ _ _).at_ (hE6.at_ hA4) (by omega)
          have a2 := blk_cell (i := 2) hA7 (Ext.refl _) rfl
          have a3 := blk_cell (i := 3) hA7 (Ext.refl _) rfl
          have hcl : (crash (ss ++ ls) n1 N bits).length = n1 + kept N m1 := by rw [TapeP.crash_length _ _ _ _ (by rw [HLEN.out]; omega), HLEN.out]; congr 2; omega
          have ho6 : Rd (w5.alloc (.cells #[.slice A5 (n1 + kept N m1) c5, .slice none 0 0, .int .i64 M] 70)) .u8 A5 (n1 + kept N m1) (crash (ss ++ ls) n1 N bits) := (ho5.extNew (Ext.new _ _)).rd (crash_wf (wf_append hs.ref.a.wf hs.ref.b.wf) n1 N bits)
          have hr7 := hr6.put (A' := A5) (n' := n1 + kept N m1) (c' := c5) (B' := none) (m' := 0) (d' := 0) (ls' := []) ho6 (Off.new ho5 hs4.lt) (rd_nil _ _ none) (Off.zero _ _) (Nat.le_refl _)
          have ht7 := (hs4.t.ext hE6).chg (put_chg _ gr (.slice A5 (n1 + kept N m1) c5) (.slice none 0 0) (.int .i64 M)) fun _ hi e => hr6.off (e ▸ hi)
          have hx7 : Ext w _ := (hs4.ext.trans hE6).chg (put_chg _ gr (.slice A5 (n1 + kept N m1) c5) (.slice none 0 0) (.int .i64 M)) fun i hi => by rw [hi]; exact hs.new
          go_wp2_with fail
          refine (Tape.crash_calls S g (ss ++ ls) n1 M N bits _ ht7 hNw hbw (by rw [HLEN.out]; omega)).mono ?_
          have hlm : (ss ++ ls).length - n1 = m1 := by rw [HLEN.out]; omega
          rw [hlm]
          rintro e w8 ⟨rfl, S8, ht8, hst8⟩
          have hkl := TapeP.kept_le N m1
          have hf8 := fresh_step hx7 hs4.fresh hst8
          have hJ' : J w g gr M (k + 1) w8 := ⟨S8, _, _, _, _, _, _, _, _, by rw [List.append_nil]; exact ht8, hf8.2, hr7.step hst8, hs.new, by omega, hf8.1⟩
          clear hs4 hs ht8 hst8 hf8 hr7 hr6 ho6 ho5 ht7 hx7 he5 hE6 hA4 hA7 hcl
          go_wp2_with fail
        rotate_left
        focus
          have hA4 : (wr.alloc (.cells #[.int .i64 kind, .slice D dn dc, .int .i64 N, .int .u8 bits] 72)).heap[wr.heap.size]? = some (.cells #[.int .i64 kind, .slice D dn dc, .int .i64 N, .int .u8 bits] 72 (0, 0)) := at_new _ _
          clear r0 r1 r2
          by_cases hc : N < 0 ∨ (n1 : Int) + m1 < N
          case' pos =>
            refine (Tape.cut_no S g _ _ _ N _ hs4.t (by rw [HLEN.out]; omega)).mono ?_
            rintro e w5 ⟨rfl, he5⟩
            have hrX := hs4.ref.ext he5
            have a2 := blk_cell (i := 2) (he5.at_ hA4) (Ext.refl _) rfl
            have q0 := hrX.cells.1 _ (Ext.refl _)
            have q1 := hrX.cells.2.1 _ (Ext.refl _)
            have q2 := hrX.cells.2.2 _ (Ext.refl _)
            go_wp2_with fail
            refine (Ref13.cut_no A1 n1 c1 B1 m1 d1 M N _ (by omega) (by omega) hc).mono ?_
            rintro e w6 ⟨rfl, he6⟩
            have hr6 := hrX.ext he6
            have hJ' : J w g gr M (k + 1) _ := j_put (c' := c1) (d' := d1) ((hs4.t.ext he5).ext he6) hs4.fresh hr6 hs.new ((hs4.ext.trans he5).trans he6) hr6.a hr6.ao hr6.b hr6.bo hr6.cap (by omega)
            have q0 := hr6.cells.1 _ (Ext.refl _)
            have q1 := hr6.cells.2.1 _ (Ext.refl _)
            have q2 := hr6.cells.2.2 _ (Ext.refl _)
            have f0 := Pack.free_of hr6.r 0
            have f1 := Pack.free_of hr6.r 1
            have f2 := Pack.free_of hr6.r 2
            clear hs4 hs hrX hr6 he5 he6 hA4
            go_wp2_with fail
          case' neg =>
            obtain ⟨q, rfl⟩ := Int.eq_ofNat_of_zero_le (show 0 ≤ N by omega)
            refine (Tape.cut_calls S g _ _ _ q _ hs4.t (by rw [HLEN.out]; omega) (by rw [HLEN.out]; omega)).mono ?_
            rintro e w5 ⟨rfl, S5, ht5, hst5⟩
            obtain ⟨hx5, hf5, hrX⟩ := hs4.step hst5
            have a2 := blk_cell (i := 2) (hst5.chg.at_ hA4 (fun h => by have := hs.t.lt _ h; omega)) (Ext.refl _) rfl
            have q0 := hrX.cells.1 _ (Ext.refl _)
            have q1 := hrX.cells.2.1 _ (Ext.refl _)
            have q2 := hrX.cells.2.2 _ (Ext.refl _)
            go_wp2_with fail
            refine (Ref13.cut_calls A1 n1 c1 ss B1 m1 d1 ls M _ hrX.a hrX.b (by omega) (by omega) q (by omega)).mono ?_
            rintro e w6 ⟨he6, A6, c6, rfl, ho6⟩
            have hr6 := hrX.ext he6
            have hbb := fun i (hi : And1 S5 gr i) => hi.elim (ht5.lt i) fun e => by rw [e]; exact hrX.lt
            have hJ' : J w g gr M (k + 1) _ := j_put (c' := c6) (d' := 0) (by rw [List.append_nil]; exact ht5.ext he6) hf5 hr6 hs.new (hx5.trans he6) (ho6.rd fun x hx => wf_append hrX.a.wf hrX.b.wf x (List.mem_of_mem_take hx)) (Off.new ho6 hbb) (rd_nil _ _ none) (Off.zero _ _) (Nat.le_refl _) (by omega)
            have q0 := hr6.cells.1 _ (Ext.refl _)
            have q1 := hr6.cells.2.1 _ (Ext.refl _)
            have q2 := hr6.cells.2.2 _ (Ext.refl _)
            have f0 := Pack.free_of hr6.r 0
            have f1 := Pack.free_of hr6.r 1
            have f2 := Pack.free_of hr6.r 2
            clear hs4 hs hrX hr6 he6 hA4 ht5 hst5 hx5 hf5 ho6 hbb
            go_wp2_with fail
        rotate_left 2
        focus
          have hA4 : (wr.alloc (.cells #[.int .i64 kind, .slice D dn dc, .int .i64 N, .int .u8 bits] 72)).heap[wr.heap.size]? = some (.cells #[.int .i64 kind, .slice D dn dc, .int .i64 N, .int .u8 bits] 72 (0, 0)) := at_new _ _
          clear r0 r1 r2
          by_cases hc : M < (n1 : Int) + m1 + dn
          case' pos =>
            refine (Tape.append_full S g _ _ _ D dn dc _ hs4.t (by omega) (by rw [HLEN.out]; omega)).mono ?_
            rintro e w5 ⟨rfl, he5⟩
            have hrX := hs4.ref.ext he5
            have a1 := blk_cell (i := 1) (he5.at_ hA4) (Ext.refl _) rfl
            have q0 := hrX.cells.1 _ (Ext.refl _)
            have q1 := hrX.cells.2.1 _ (Ext.refl _)
            have q2 := hrX.cells.2.2 _ (Ext.refl _)
            go_wp2_with fail
            refine (Ref13.append_full A1 n1 c1 B1 m1 d1 M D dn dc _ (by omega) (by omega) (by omega) hc).mono ?_
            rintro e w6 ⟨rfl, he6⟩
            have hr6 := hrX.ext he6
            have hJ' : J w g gr M (k + 1) _ := j_put (c' := c1) (d' := d1) ((hs4.t.ext he5).ext he6) hs4.fresh hr6 hs.new ((hs4.ext.trans he5).trans he6) hr6.a hr6.ao hr6.b hr6.bo hr6.cap (by omega)
            have q0 := hr6.cells.1 _ (Ext.refl _)
            have q1 := hr6.cells.2.1 _ (Ext.refl _)
            have q2 := hr6.cells.2.2 _ (Ext.refl _)
            have f0 := Pack.free_of hr6.r 0
            have f1 := Pack.free_of hr6.r 1
            have f2 := Pack.free_of hr6.r 2
            clear hs4 hs hrX hr6 he5 he6 hA4
            go_wp2_with fail
          case' neg =>
            refine (Tape.append_calls S g _ _ _ D dn dc dl _ hs4.t (hrd.ext hs4.ext) (by rw [HLEN.out]; omega) (by omega) (by rw [HLEN.out]; omega)).mono ?_
            rintro e w5 ⟨rfl, S5, ht5, hst5⟩
            obtain ⟨hx5, hf5, hrX⟩ := hs4.step hst5
            have a1 := blk_cell (i := 1) (hst5.chg.at_ hA4 (fun h => by have := hs.t.lt _ h; omega)) (Ext.refl _) rfl
            have q0 := hrX.cells.1 _ (Ext.refl _)
            have q1 := hrX.cells.2.1 _ (Ext.refl _)
            have q2 := hrX.cells.2.2 _ (Ext.refl _)
            go_wp2_with fail
            refine (Ref13.append_calls A1 n1 c1 B1 m1 d1 ls M D dn dc dl _ hrX.b (hrd.ext hx5) (by omega) (by omega) (by omega) (by omega)).mono ?_
            rintro e w6 ⟨he6, B6, d6, rfl, ho6⟩
            have hr6 := hrX.ext he6
            have hbb := fun i (hi : And1 S5 gr i) => hi.elim (ht5.lt i) fun e => by rw [e]; exact hrX.lt
            have hJ' : J w g gr M (k + 1) _ := j_put (c' := c1) (d' := d6) (by rw [← List.append_assoc]; exact ht5.ext he6) hf5 hr6 hs.new (hx5.trans he6) hr6.a hr6.ao (ho6.rd (wf_append hrX.b.wf hrd.wf)) (Off.new ho6 hbb) ho6.cap.1 (by omega)
            have q0 := hr6.cells.1 _ (Ext.refl _)
            have q1 := hr6.cells.2.1 _ (Ext.refl _)
            have q2 := hr6.cells.2.2 _ (Ext.refl _)
            have f0 := Pack.free_of hr6.r 0
            have f1 := Pack.free_of hr6.r 1
            have f2 := Pack.free_of hr6.r 2
            clear hs4 hs hrX hr6 he6 hA4 ht5 hst5 hx5 hf5 ho6 hbb
            go_wp2_with fail
        all_goals
          obtain ⟨S2, A2, n2, c2, B2, m2, d2, ss2, ls2, hs2⟩ := hJ'
          refine (Tape.len_calls S2 g _ _ _ _ hs2.t).mono ?_
          rintro e w9 ⟨rfl, he9⟩
          have hl2 := hs2.len
          have hs9 := hs2.ext_ he9
          have hsh2 := hs2.short
          have HL2 := Lib.hid hl2
          rw [hl2]
          clear hs2 hl2
          obtain ⟨p0, p1, p2⟩ := hs9.ref.cells
          have wA : IntKind.i64.wrap ((n2 : Int) + m2) = n2 + m2 := IntWalk.i64_in _ (by omega)
          go_wp2_with fail
          refine Lex.wp_region_ext [(23, .row w 5 .u8 (n2 + m2) (ss2 ++ ls2)), (26, .row w 5 .u8 (n2 + m2) (ss2 ++ ls2))] (by kernel_rfl) (by kernel_rfl) (by repeat (first | exact Lex.st_nil | refine Lex.st_cons (by first | exact Lex.nums_st | exact Lex.const_st | exact Lex.row_st) ?_)) ?_
          repeat (first | (refine Lex.lex_skip (by rfl) ?_; simp only [Act.put, List.setIfInBounds_toArray, List.set_cons_zero, List.set_cons_succ]) | (refine Lex.lex_still (by rfl) (by rfl) ?_; apply Exists.intro; refine ⟨fun W hW => ?_, ?_⟩; (have hE := hW.1; have hE2 := Base.Ext.trans (Base.Ext.drew (Base.Ext.refl _)) hW.1; go_simp; try with_reducible rfl); simp only [Act.put, List.setIfInBounds_toArray, List.set_cons_zero, List.set_cons_succ]))
          refine Lex.lex_loose (by rfl) (by rfl) (fun W hW => ?_) ?_
          · have hE := drew_ext hW.1
            go_simp
            refine (Tape.read_calls S2 g _ _ _ _ (hs9.t.ext hE) (by rw [HL2.out]; omega)).mono ?_
            rw [HL2.out]
            rintro e w10 ⟨he10, A10, c10, rfl, ho10⟩
            exact ⟨_, rfl, ⟨A10, c10, rfl, ho10.cap.1⟩, he10, Lex.row_mk (ho10.mono fun i _ hi => Nat.le_trans (hs9.ext.trans hE).size hi)⟩
          rintro v ⟨A10, c10, rfl, -⟩
          simp only [Act.put, List.setIfInBounds_toArray, List.set_cons_zero, List.set_cons_succ]
          refine Lex.lex_still (by rfl) (by rfl) ?_; apply Exists.intro; refine ⟨fun W hW => ?_, ?_⟩
          · have q := run_string (P := Try.prog) 22 9 5 c10 Try.underlying22 Try.underlying5 Try.underlying9 ((Lex.upd_here (hW.2 23 (by kernel_rfl)) _ _ rfl).rd hs9.t.wf)
            go_simp
            try with_reducible rfl
          simp only [Act.put, List.setIfInBounds_toArray, List.set_cons_zero, List.set_cons_succ]
          repeat (first | (refine Lex.lex_skip (by rfl) ?_; simp only [Act.put, List.setIfInBounds_toArray, List.set_cons_zero, List.set_cons_succ]) | (refine Lex.lex_still (by rfl) (by rfl) ?_; apply Exists.intro; refine ⟨fun W hW => ?_, ?_⟩; (have hE := hW.1; have hE2 := Base.Ext.trans (Base.Ext.drew (Base.Ext.refl _)) hW.1; go_simp; try with_reducible rfl); simp only [Act.put, List.setIfInBounds_toArray, List.set_cons_zero, List.set_cons_succ]))
          refine Lex.lex_loose (by rfl) (by rfl) (fun W hW => ?_) ?_
          · have hE := drew_ext hW.1
            have h9 := hs9.ref.ext hE
            go_simp
            refine (Ref13.all_calls A2 n2 c2 ss2 B2 m2 d2 ls2 M _ h9.a h9.b (by omega) (by omega)).mono ?_
            rintro e w10 ⟨he10, A11, c11, rfl, ho10⟩
            exact ⟨_, rfl, ⟨A11, c11, rfl, ho10.cap.1⟩, he10, Lex.row_mk (ho10.mono fun i _ hi => Nat.le_trans (hs9.ext.trans hE).size hi)⟩
          rintro v ⟨A11, c11, rfl, -⟩
          simp only [Act.put, List.setIfInBounds_toArray, List.set_cons_zero, List.set_cons_succ]
          refine Lex.lex_still (by rfl) (by rfl) ?_; apply Exists.intro; refine ⟨fun W hW => ?_, ?_⟩
          · have q := run_string (P := Try.prog) 22 9 5 c11 Try.underlying22 Try.underlying5 Try.underlying9 ((Lex.upd_here (hW.2 26 (by kernel_rfl)) _ _ rfl).rd hs9.t.wf)
            go_simp
            try with_reducible rfl
          simp only [Act.put, List.setIfInBounds_toArray, List.set_cons_zero, List.set_cons_succ]
          repeat (first | (refine Lex.lex_skip (by rfl) ?_; simp only [Act.put, List.setIfInBounds_toArray, List.set_cons_zero, List.set_cons_succ]) | (refine Lex.lex_still (by rfl) (by rfl) ?_; apply Exists.intro; refine ⟨fun W hW => ?_, ?_⟩; (have hE := hW.1; have hE2 := Base.Ext.trans (Base.Ext.drew (Base.Ext.refl _)) hW.1; go_simp; try with_reducible rfl); simp only [Act.put, List.setIfInBounds_toArray, List.set_cons_zero, List.set_cons_succ]))
          refine Lex.lex_nil (fun W hW => ?_)
          have hJ2 : J w g gr M (k + 1) W := ⟨_, _, _, _, _, _, _, _, _, hs9.ext_ (drew_ext hW.1)⟩
          clear hW hs9 p0 p1 p2 wA
          go_wp2_with fail
          go_roundw
          case rel => exact ⟨k + 1, by go_num, by omega, by omega, hJ2⟩
          case measure => simp [intOf]; omega
      · obtain ⟨S2, A2, n2, c2, B2, m2, d2, ss2, ls2, hs2⟩ := hJ
        have hx := hs2.ext
        clear hs2
        have hlt2 : ¬ (k < n ∧ (k : Int) < 50) := by omega
        by_cases hkn2 : k < n
        all_goals
          first | (have hk50' : ¬ (k : Int) < 50 := by omega) | skip
          go_wp2_with fail
          refine (Tape.len_nil _).mono ?_
          rintro e w5 ⟨rfl, rfl⟩
          go_wp2_with fail
          refine (Tape.read_nil _).mono ?_
          rintro e w5 ⟨rfl, rfl⟩
          go_wp2_with fail
          refine (Tape.back_nil _).mono ?_
          rintro e w5 ⟨rfl, rfl⟩
          go_wp2_with fail
          refine (Tape.crash_nil _).mono ?_
          rintro e w5 ⟨rfl, rfl⟩
          go_wp2_with fail
          refine (Tape.append_nil _).mono ?_
          rintro e w5 ⟨rfl, rfl⟩
          go_wp2_with fail
          refine (Tape.sync_nil _).mono ?_
          rintro e w5 ⟨rfl, rfl⟩
          go_wp2_with fail
          refine (Tape.cut_nil _).mono ?_
          rintro e w5 ⟨rfl, rfl⟩
          go_wp2_with fail
          refine (TapeKeepsW.awake_calls _).mono ?_
          rintro e w5 ⟨rfl, he5⟩
          go_wp2_with fail
          go_ret
          exact ⟨rfl, hx.trans he5⟩
end Go.Proofs.Ytaohnialheccdaa.TapePlaysW
