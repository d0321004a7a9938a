import Derived.Test.YtfhgjopoohfhjaaTapeKeeps
import Derived.Test.YtfhgjopoohfhjaaRef13
import Derived.Test.YtfhgjopoohfhjaaShape
namespace Go.Proofs.Ytfhgjopoohfhjaa.TapePlaysW
open Go.RowKit Base Step Tape
open TapeP (kept crash turn)
open Shape (Sh Fs)

def actS : Sh := .st (.cons (.int .i64) (.cons (.sl (.int .u8)) (.cons (.int .i64) (.cons (.int .u8) .nil))))
abbrev Act := Int × (Option Addr × Nat × Nat × List Int) × Int × Int × Unit

/-- The document's tape in block gr; what it reads lies off S and off gr. -/
structure Ref (S : Nat → Prop) (gr : Nat) (most : Int) (wr : World) (A : Option Addr) (n c : Nat) (B : Option Addr) (m d : Nat) (ss ls : List Int) : Prop where
  off : ¬ S gr
  r : wr.heap[gr]? = some (.cells #[.slice A n c, .slice B m d, .int .i64 most] 52 (0, 0))
  a : Rd wr .u8 A n ss
  ao : Off (And1 S gr) A n
  b : Rd wr .u8 B m ls
  bo : Off (And1 S gr) B m
  cap : m ≤ d
theorem Ref.lt {S : Nat → Prop} {gr : Nat} {most : Int} {wr : World} {A : Option Addr} {n c : Nat} {B : Option Addr} {m d : Nat} {ss ls : List Int} (h : Ref S gr most wr A n c B m d ss ls) : gr < wr.heap.size := (Array.getElem?_eq_some_iff.1 h.r).1
theorem Ref.step {S S' : Nat → Prop} {gr : Nat} {most : Int} {wr wr' : World} {A : Option Addr} {n c : Nat} {B : Option Addr} {m d : Nat} {ss ls : List Int} (h : Ref S gr most wr A n c B m d ss ls) (hs : Step S S' wr wr') : Ref S' gr most wr' A n c B m d ss ls :=
  ⟨hs.not h.off h.lt, hs.chg.at_ h.r h.off, rd_step h.a h.ao (hs.and1 gr), h.ao.step h.a (hs.and1 gr), rd_step h.b h.bo (hs.and1 gr), h.bo.step h.b (hs.and1 gr), h.cap⟩
theorem Ref.ext {S : Nat → Prop} {gr : Nat} {most : Int} {wr wr' : World} {A : Option Addr} {n c : Nat} {B : Option Addr} {m d : Nat} {ss ls : List Int} (h : Ref S gr most wr A n c B m d ss ls) (he : Ext wr wr') : Ref S gr most wr' A n c B m d ss ls :=
  ⟨h.off, he.at_ h.r, h.a.ext he, h.ao, h.b.ext he, h.bo, h.cap⟩
theorem Ref.cells {S : Nat → Prop} {gr : Nat} {most : Int} {wr : World} {A : Option Addr} {n c : Nat} {B : Option Addr} {m d : Nat} {ss ls : List Int} (h : Ref S gr most wr A n c B m d ss ls) :
    (∀ W, Ext wr W → W.cell? ⟨gr, 0, none⟩ = some (.slice A n c)) ∧ (∀ W, Ext wr W → W.cell? ⟨gr, 1, none⟩ = some (.slice B m d)) ∧ (∀ W, Ext wr W → W.cell? ⟨gr, 2, none⟩ = some (.int .i64 most)) :=
  ⟨fun _ he => blk_cell h.r he rfl, fun _ he => blk_cell h.r he rfl, fun _ he => blk_cell h.r he rfl⟩
/-- A new value is stored. -/
theorem Ref.put {S : Nat → Prop} {gr : Nat} {most : Int} {wr : World} {A A' : Option Addr} {n c n' c' : Nat} {B B' : Option Addr} {m d m' d' : Nat} {ss ls ss' ls' : List Int} (h : Ref S gr most wr A n c B m d ss ls)
    (ha : Rd wr .u8 A' n' ss') (hao : Off (And1 S gr) A' n') (hb : Rd wr .u8 B' m' ls') (hbo : Off (And1 S gr) B' m') (hcap : m' ≤ d') :
    Ref S gr most (((wr.setCell ⟨gr, 0, none⟩ (.slice A' n' c')).setCell ⟨gr, 1, none⟩ (.slice B' m' d')).setCell ⟨gr, 2, none⟩ (.int .i64 most)) A' n' c' B' m' d' ss' ls' := by
  have hk : ∀ (A : Option Addr) (n : Nat) (xs : List Int), Rd wr .u8 A n xs → Off (And1 S gr) A n → Rd (((wr.setCell ⟨gr, 0, none⟩ (.slice A' n' c')).setCell ⟨gr, 1, none⟩ (.slice B' m' d')).setCell ⟨gr, 2, none⟩ (.int .i64 most)) .u8 A n xs := fun A n xs hr ho =>
    hr.keep fun ad ha h0 => by
      have hne : gr ≠ ad.block := fun e => ho h0 ad ha (.inr e.symm)
      rw [Below.heap_setCell _ _ _ _ hne.symm, Below.heap_setCell _ _ _ _ hne.symm, Below.heap_setCell _ _ _ _ hne.symm]
  exact ⟨h.off, set_blk (set_blk (set_blk h.r _) _) _, hk _ _ _ ha hao, hao, hk _ _ _ hb hbo, hbo, hcap⟩
theorem put_chg (wr : World) (gr : Nat) (u0 u1 u2 : Value) : Chg (fun i => i = gr) wr (((wr.setCell ⟨gr, 0, none⟩ u0).setCell ⟨gr, 1, none⟩ u1).setCell ⟨gr, 2, none⟩ u2) :=
  Chg.setCell (S := fun i => i = gr) (Chg.setCell (S := fun i => i = gr) (Chg.setCell (S := fun i => i = gr) (Chg.refl _ _) (p := ⟨gr, 0, none⟩) rfl _) (p := ⟨gr, 1, none⟩) rfl _) (p := ⟨gr, 2, none⟩) rfl _
/-- The program's tape and the document's say the same. -/
structure Same (w : World) (g gr : Nat) (most : Int) (k : Nat) (wr : World) (S : Nat → Prop) (A : Option Addr) (n c : Nat) (B : Option Addr) (m d : Nat) (ss ls : List Int) : Prop where
  t : Tape.Tape wr S g (ss ++ ls) n most
  fresh : Fresh w S
  ref : Ref S gr most wr A n c B m d ss ls
  new : w.heap.size ≤ gr
  short : n + m ≤ 500 * k
  ext : Ext w wr
theorem Same.ext_ {w : World} {g gr : Nat} {most : Int} {k : Nat} {wr wr' : World} {S : Nat → Prop} {A : Option Addr} {n c : Nat} {B : Option Addr} {m d : Nat} {ss ls : List Int} (h : Same w g gr most k wr S A n c B m d ss ls) (he : Ext wr wr') : Same w g gr most k wr' S A n c B m d ss ls :=
  ⟨h.t.ext he, h.fresh, h.ref.ext he, h.new, h.short, h.ext.trans he⟩
theorem Same.lt {w : World} {g gr : Nat} {most : Int} {k : Nat} {wr : World} {S : Nat → Prop} {A : Option Addr} {n c : Nat} {B : Option Addr} {m d : Nat} {ss ls : List Int} (h : Same w g gr most k wr S A n c B m d ss ls) : ∀ i, And1 S gr i → i < wr.heap.size :=
  fun i hi => hi.elim (h.t.lt i) fun e => by rw [e]; exact h.ref.lt
theorem Same.len {w : World} {g gr : Nat} {most : Int} {k : Nat} {wr : World} {S : Nat → Prop} {A : Option Addr} {n c : Nat} {B : Option Addr} {m d : Nat} {ss ls : List Int} (h : Same w g gr most k wr S A n c B m d ss ls) : (ss ++ ls).length = n + m := by
  rw [List.length_append, h.ref.a.len, h.ref.b.len]
/-- Behind a call of the program's tape. -/
theorem Same.step {w : World} {g gr : Nat} {most : Int} {k : Nat} {wr wr' : World} {S S' : Nat → Prop} {A : Option Addr} {n c : Nat} {B : Option Addr} {m d : Nat} {ss ls : List Int} (h : Same w g gr most k wr S A n c B m d ss ls) (hs : Step S S' wr wr') : Ext w wr' ∧ Fresh w S' ∧ Ref S' gr most wr' A n c B m d ss ls :=
  ⟨(fresh_step h.ext h.fresh hs).1, (fresh_step h.ext h.fresh hs).2, h.ref.step hs⟩
/-- Behind the store of the document's tape. -/
theorem j_put {w : World} {g gr : Nat} {most : Int} {k : Nat} {wr : World} {S : Nat → Prop} {A A' : Option Addr} {n c n' c' : Nat} {B B' : Option Addr} {m d m' d' : Nat} {ss ls ss' ls' : List Int} (ht : Tape.Tape wr S g (ss' ++ ls') n' most) (hf : Fresh w S) (hr : Ref S gr most wr A n c B m d ss ls) (hnew : w.heap.size ≤ gr) (he : Ext w wr)
    (ha : Rd wr .u8 A' n' ss') (hao : Off (And1 S gr) A' n') (hb : Rd wr .u8 B' m' ls') (hbo : Off (And1 S gr) B' m') (hcap : m' ≤ d') (hs : n' + m' ≤ 500 * k) :
    ∃ S A n c B m d ss ls, Same w g gr most k (((wr.setCell ⟨gr, 0, none⟩ (.slice A' n' c')).setCell ⟨gr, 1, none⟩ (.slice B' m' d')).setCell ⟨gr, 2, none⟩ (.int .i64 most)) S A n c B m d ss ls :=
  ⟨S, A', n', c', B', m', d', ss', ls', ht.chg (put_chg wr gr _ _ _) fun _ hi e => hr.off (e ▸ hi), hf, hr.put ha hao hb hbo hcap, hnew, hs, he.chg (put_chg wr gr _ _ _) fun i hi => by rw [hi]; exact hnew⟩
theorem j_put1 {w : World} {g gr : Nat} {most : Int} {k : Nat} {wr : World} {S : Nat → Prop} {A : Option Addr} {n c : Nat} {B : Option Addr} {m d : Nat} {ss ls : List Int} (ht : Tape.Tape wr S g ss n most) (hf : Fresh w S) (hr : Ref S gr most wr A n c B m d ss ls) (hnew : w.heap.size ≤ gr) (he : Ext w wr) (hs : n ≤ 500 * k) :
    ∃ S A n c B m d ss ls, Same w g gr most k (wr.setCell ⟨gr, 1, none⟩ (.slice none 0 0)) S A n c B m d ss ls :=
  have hc : Chg (fun i => i = gr) wr (wr.setCell ⟨gr, 1, none⟩ (.slice none 0 0)) := Chg.setCell (S := fun i => i = gr) (Chg.refl _ _) (p := ⟨gr, 1, none⟩) rfl _
  ⟨S, A, n, c, none, 0, 0, ss, [], by rw [List.append_nil]; exact ht.chg hc fun _ hi e => hr.off (e ▸ hi), hf,
    ⟨hr.off, set_blk hr.r _, hr.a.chg hc fun ad ha h0 e => hr.ao h0 ad ha (.inr e), hr.ao, rd_nil _ _ _, Off.zero _ _, Nat.le_refl _⟩, hnew, hs, he.chg hc fun i hi => by rw [hi]; exact hnew⟩
theorem crash_wf {xs : List Int} (h : ∀ x ∈ xs, (Lit.int .u8 x).wf = true) (safe : Nat) (keep bits : Int) : ∀ x ∈ crash xs safe keep bits, (Lit.int .u8 x).wf = true := by
  intro x hx
  unfold crash at hx
  split at hx
  · rcases List.mem_or_eq_of_mem_set hx with h1 | h1
    · exact h x (List.mem_of_mem_take h1)
    · rw [h1]
      exact u8_wf (TapeP.bits_u8 _ _).1 (TapeP.bits_u8 _ _).2
  · exact h x (List.mem_of_mem_take hx)
def J (w : World) (g gr : Nat) (most : Int) (k : Nat) (wr : World) : Prop := ∃ S A n c B m d ss ls, Same w g gr most k wr S A n c B m d ss ls
theorem actcells (x : Act) : actS.cells x = [.int .i64 x.1, .slice x.2.1.1 x.2.1.2.1 x.2.1.2.2.1, .int .i64 x.2.2.1, .int .u8 x.2.2.2.1] := rfl

end Go.Proofs.Ytfhgjopoohfhjaa.TapePlaysW
