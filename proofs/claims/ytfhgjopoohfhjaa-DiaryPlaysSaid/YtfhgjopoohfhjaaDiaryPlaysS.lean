/- The state of DiaryPlays: the tape, the diary, the document's tape, and all records. -/
import Derived.Test.YtfhgjopoohfhjaaDiaryLies
import Derived.Test.YtfhgjopoohfhjaaDiaryPlaysP
import Derived.Test.YtfhgjopoohfhjaaTapePlays
namespace Go.Proofs.Ytfhgjopoohfhjaa.DiaryPlaysS
open Go.RowKit Base Step Vec Diary
open DiaryP (records frame)
open DiaryRef (RowsR Reads)
open DiaryLies (Lies)
open TapePlaysW (Ref put_chg)
theorem ref_mono {S S' : Nat → Prop} {gr : Nat} {most : Int} {wr : World} {A : Option Addr} {n c : Nat} {B : Option Addr} {m d : Nat} {ss ls : List Int} (h : Ref S gr most wr A n c B m d ss ls) (hs : ∀ i, S' i → S i) : Ref S' gr most wr A n c B m d ss ls :=
  ⟨fun k => h.off (hs _ k), h.r, h.a, fun h0 ad ha k => h.ao h0 ad ha (k.imp (hs _) id), h.b, fun h0 ad ha k => h.bo h0 ad ha (k.imp (hs _) id), h.cap⟩
theorem both_put {w w' : World} {St Sd : Nat → Prop} {gt g gr : Nat} {bs : List Int} {safe : Nat} {most : Int} {xs : List (List Int)} {n : Nat} (h : Both w St Sd gt g bs safe most xs n) (hc : Chg (fun i => i = gr) w w') (ho : ¬ Or2 St Sd gr) : Both w' St Sd gt g bs safe most xs n :=
  ⟨h.t.chg hc fun _ hi e => ho (.inl (e ▸ hi)), h.d.chg hc fun _ hi e => ho (.inr (e ▸ hi)), h.sep⟩
theorem lies_put {S : Nat → Prop} {gr : Nat} {w w' : World} {A : Option Addr} {n : Nat} {xs : List (List Int)} (h : Lies (And1 S gr) w A n xs) (hc : Chg (fun i => i = gr) w w') : Lies (And1 S gr) w' A n xs :=
  h.step ⟨hc.mono fun _ _ e => .inr e, fun _ h => .inl h⟩
structure Pl (w : World) (gt gr : Nat) (M : Int) (k : Nat) (wr : World) (g : Nat) (St Sd : Nat → Prop) (A : Option Addr) (n c : Nat) (B : Option Addr) (m d : Nat) (ss ls : List Int) (AL : Option Addr) (xs : List (List Int)) (ns : Nat) : Prop where
  b : Both wr St Sd gt g (ss ++ ls) n M xs ns
  fresh : Fresh w (Or2 St Sd)
  ref : Ref (Or2 St Sd) gr M wr A n c B m d ss ls
  new : w.heap.size ≤ gr
  ext : Ext w wr
  lies : Lies (And1 (Or2 St Sd) gr) wr AL xs.length xs
  short : n + m ≤ 320 * k
  c1 : xs.length * 20 ≤ n + m
  c2 : ns * 20 ≤ n
  len : ∀ x ∈ xs, x.length ≤ 65536
section
variable {w wr wr' : World} {gt gr : Nat} {M : Int} {k g : Nat} {St Sd St' Sd' : Nat → Prop} {A A' : Option Addr} {n c n' c' : Nat} {B B' : Option Addr} {m d m' d' : Nat} {ss ls ss' ls' : List Int} {AL AL' : Option Addr} {xs xs' : List (List Int)} {ns ns' : Nat}
theorem Pl.ext_ (h : Pl w gt gr M k wr g St Sd A n c B m d ss ls AL xs ns) (he : Ext wr wr') : Pl w gt gr M k wr' g St Sd A n c B m d ss ls AL xs ns :=
  ⟨h.b.ext he, h.fresh, h.ref.ext he, h.new, h.ext.trans he, h.lies.ext he, h.short, h.c1, h.c2, h.len⟩
theorem Pl.lt (h : Pl w gt gr M k wr g St Sd A n c B m d ss ls AL xs ns) : ∀ i, And1 (Or2 St Sd) gr i → i < wr.heap.size := fun i hi =>
  hi.elim (fun h2 => h2.elim (h.b.t.lt i) (h.b.d.lt i)) fun e => by rw [e]; exact h.ref.lt
theorem Pl.len2 (h : Pl w gt gr M k wr g St Sd A n c B m d ss ls AL xs ns) : (ss ++ ls).length = n + m := by
  rw [List.length_append, h.ref.a.len, h.ref.b.len]
theorem Pl.step (h : Pl w gt gr M k wr g St Sd A n c B m d ss ls AL xs ns) (hs : Step (Or2 St Sd) (Or2 St' Sd') wr wr') :
    Ext w wr' ∧ Fresh w (Or2 St' Sd') ∧ Ref (Or2 St' Sd') gr M wr' A n c B m d ss ls ∧ Lies (And1 (Or2 St' Sd') gr) wr' AL xs.length xs :=
  ⟨(fresh_step h.ext h.fresh hs).1, (fresh_step h.ext h.fresh hs).2, h.ref.step hs, h.lies.step (hs.and1 gr)⟩
theorem Pl.mono (h : Pl w gt gr M k wr g St Sd A n c B m d ss ls AL xs ns) {k' : Nat} (hk : k ≤ k') : Pl w gt gr M k' wr g St Sd A n c B m d ss ls AL xs ns :=
  ⟨h.b, h.fresh, h.ref, h.new, h.ext, h.lies, by have := h.short; omega, h.c1, h.c2, h.len⟩
/-- Behind the store of the document's tape. -/
theorem pl_put (hb : Both wr St Sd gt g (ss' ++ ls') n' M xs' ns') (hf : Fresh w (Or2 St Sd)) (hr : Ref (Or2 St Sd) gr M wr A n c B m d ss ls) (hnew : w.heap.size ≤ gr) (he : Ext w wr) (hl : Lies (And1 (Or2 St Sd) gr) wr AL' xs'.length xs')
    (ha : Rd wr .u8 A' n' ss') (hao : Off (And1 (Or2 St Sd) gr) A' n') (hb' : Rd wr .u8 B' m' ls') (hbo : Off (And1 (Or2 St Sd) gr) B' m') (hcap : m' ≤ d') (hs : n' + m' ≤ 320 * k) (h1 : xs'.length * 20 ≤ n' + m') (h2 : ns' * 20 ≤ n') (h3 : ∀ x ∈ xs', x.length ≤ 65536) :
    Pl w gt gr M k (((wr.setCell ⟨gr, 0, none⟩ (.slice A' n' c')).setCell ⟨gr, 1, none⟩ (.slice B' m' d')).setCell ⟨gr, 2, none⟩ (.int .i64 M)) g St Sd A' n' c' B' m' d' ss' ls' AL' xs' ns' :=
  ⟨both_put hb (put_chg wr gr _ _ _) hr.off, hf, hr.put ha hao hb' hbo hcap, hnew, he.chg (put_chg wr gr _ _ _) fun i hi => by rw [hi]; exact hnew, lies_put hl (put_chg wr gr _ _ _), hs, h1, h2, h3⟩
end
/-- The records that the document finds, as rows off S. -/
theorem lies_of {w w' : World} {S : Nat → Prop} {Z : Nat → Prop} {A : Option Addr} {n c : Nat} {xs : List (List Int)} (h : RowsR Z w w' A n c xs) (hS : ∀ i, S i → i < w.heap.size) (hZ : ∀ i, Z i → ¬ S i) : Lies S w' A n xs := by
  have hl := h.reads.len
  have hroom := h.reads.room
  obtain ⟨vs, h1, h2⟩ := h
  refine ⟨hl, hroom, fun i x hx => ?_⟩
  obtain ⟨v, hv, B, m, d, rfl, hmd, hr, _, hz⟩ := h2.at_ hx
  obtain ⟨ad, hA, hc⟩ := own_cell h1 hv
  refine ⟨ad, B, m, d, hA, hc, hmd, hr, fun k => ?_, fun h0 a ha k => hZ _ (hz h0 a ha) k⟩
  have h9 : w.heap.size ≤ ad.block := h1.foot _ (by rw [hA]; rfl)
  have := hS _ k
  omega
def J (w : World) (gt gr : Nat) (M : Int) (k : Nat) (wr : World) (dv al sf : Value) : Prop := ∃ g St Sd A n c B m d ss ls AL cl xs ns, dv = .pointer (some ⟨g, 0, none⟩) ∧ al = .slice AL xs.length cl ∧ sf = .int .i64 (ns : Nat) ∧ xs.length ≤ cl ∧ Pl w gt gr M k wr g St Sd A n c B m d ss ls AL xs ns
theorem J.mono {w : World} {gt gr : Nat} {M : Int} {k k' : Nat} {wr : World} {dv al sf : Value} (h : J w gt gr M k wr dv al sf) (hk : k ≤ k') : J w gt gr M k' wr dv al sf := by
  obtain ⟨g, St, Sd, A, n, c, B, m, d, ss, ls, AL, cl, xs, ns, h1, h2, h3, h4, h5⟩ := h
  exact ⟨g, St, Sd, A, n, c, B, m, d, ss, ls, AL, cl, xs, ns, h1, h2, h3, h4, h5.mono hk⟩
end Go.Proofs.Ytfhgjopoohfhjaa.DiaryPlaysS
