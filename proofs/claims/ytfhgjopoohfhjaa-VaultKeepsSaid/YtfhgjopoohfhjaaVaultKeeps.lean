/- VaultKeeps, walked. -/
import Derived.Test.YtfhgjopoohfhjaaVaultM
import Derived.Deep.RegionWith
import Derived.Deep.AppendLies
import Derived.Deep.RegionLaw
import Derived.Deep.DeepCutAuto
import Derived.Deep.LoopGhost
namespace Go.Proofs.Ytfhgjopoohfhjaa.VaultW
open Go.RowKit Base Step Vec MapIs
open VaultP (Sh Shards nameB cellOf cellsOf place fine readV Whole found shOf)
open DiskP (readC puts put1 crash)
open Vault (foundN codeV shardOf dataOf shV VaultAt)
abbrev shF : Shape.Fs := .cons (.int .u32) (.cons (.int .u16) (.cons (.int .u16) (.cons (.int .u32) .nil)))
/-- A shard's cells. -/
def shC (s : Sh) : List Value := [.int .u32 s.o, .int .u16 s.st, .int .u16 s.sl, .int .u32 s.g]
abbrev shBlk (s : Sh) : Obj := .cells #[.int .u32 s.o, .int .u16 s.st, .int .u16 s.sl, .int .u32 s.g] 80
theorem info_sh : (Try.prog.info? 80).map (fun i => (i.zero, i.size, i.bytes)) = some (some (.agg #[.int .u32 0, .int .u16 0, .int .u16 0, .int .u32 0]), 4, 12) := by kernel_rfl
theorem info_sl : (Try.prog.info? 22).map (fun i => (i.zero, i.size, i.bytes)) = some (some (.slice none 0 0), 1, 24) := by kernel_rfl
/-- The law's own rows lie off the vault's blocks. -/
abbrev Off3 (w : World) (S : Nat → Prop) (gv gm b : Nat) : Nat → Prop := fun i => w.heap.size ≤ i ∧ ¬ S i ∧ i ≠ gv ∧ i ≠ gm ∧ i ≠ b
/-- The law under way: what has been put. -/
structure PutV (w : World) (s : Sh) (b gv gm gd k : Nat) (S : Nat → Prop) (V : Shards) (wr : World) : Prop where
  va : VaultAt wr gv gm gd (place V 0)
  dk : ∃ y : Nat, y ≤ k ∧ Disk.Disk wr S gd 300 (cellsOf V ++ List.replicate (40 - V.length) []) [] y
  fine : fine V
  short : ∀ p ∈ V, p.2.length ≤ 200
  few : V.length ≤ k
  fresh : Fresh w S
  ngv : ¬ S gv
  ngm : ¬ S gm
  nb : ¬ S b
  bgv : b ≠ gv
  bgm : b ≠ gm
  wgv : w.heap.size ≤ gv
  wgm : w.heap.size ≤ gm
  bAt : wr.heap[b]? = some (shBlk s)
  ext : Ext w wr
/-- And the law's own rows. -/
structure PutR (w : World) (b gv gm : Nat) (S : Nat → Prop) (V : Shards) (An : Option Addr) (cn : Nat) (Ad : Option Addr) (cd : Nat) (dvs : List Value) (wr : World) : Prop where
  names : Own wr (Off3 w S gv gm b) 80 4 (.slice An V.length cn) V.length (V.flatMap fun p => shC p.1)
  datas : Own wr (Off3 w S gv gm b) 22 1 (.slice Ad V.length cd) V.length dvs
  each : ∀ (i : Nat) (p : Sh × List Int), V[i]? = some p → ∃ (D : Option Addr) (dc : Nat), dvs[i]? = some (.slice D p.2.length dc) ∧ Rd w .u8 D p.2.length p.2
theorem PutV.ext_ {w : World} {s : Sh} {b gv gm gd k k' : Nat} {S : Nat → Prop} {V : Shards} {wr wr' : World} (h : PutV w s b gv gm gd k S V wr) (he : Ext wr wr') (hk : k ≤ k') : PutV w s b gv gm gd k' S V wr' := by
  obtain ⟨y, hy, hd⟩ := h.dk
  exact ⟨h.va.ext he, ⟨y, Nat.le_trans hy hk, hd.ext he⟩, h.fine, h.short, Nat.le_trans h.few hk, h.fresh, h.ngv, h.ngm, h.nb, h.bgv, h.bgm, h.wgv, h.wgm, he.at_ h.bAt, h.ext.trans he⟩
theorem PutV.chg {w : World} {s : Sh} {b gv gm gd k : Nat} {S R : Nat → Prop} {V : Shards} {wr wr' : World} (h : PutV w s b gv gm gd k S V wr) (hc : Chg R wr wr') (hR : ∀ i, R i → Off3 w S gv gm b i) : PutV w s b gv gm gd k S V wr' := by
  obtain ⟨y, hy, hd⟩ := h.dk
  exact ⟨h.va.chg hc (fun k => (hR _ k).2.2.1 rfl) (fun k => (hR _ k).2.2.2.1 rfl), ⟨y, hy, hd.chg hc fun i hi k => (hR _ k).2.1 hi⟩, h.fine, h.short, h.few, h.fresh, h.ngv, h.ngm, h.nb, h.bgv, h.bgm, h.wgv, h.wgm, hc.at_ h.bAt (fun k => (hR _ k).2.2.2.2 rfl), h.ext.chg hc fun i hi => (hR i hi).1⟩
theorem PutR.ext_ {w : World} {b gv gm : Nat} {S : Nat → Prop} {V : Shards} {An : Option Addr} {cn : Nat} {Ad : Option Addr} {cd : Nat} {dvs : List Value} {wr wr' : World} (h : PutR w b gv gm S V An cn Ad cd dvs wr) (he : Ext wr wr') : PutR w b gv gm S V An cn Ad cd dvs wr' :=
  ⟨h.names.extNew he, h.datas.extNew he, h.each⟩
theorem PutV.put {w : World} {s : Sh} {b gv gm gd k y : Nat} {S : Nat → Prop} {V : Shards} {W w' : World} {s' : Sh} {ys' : List Int} (h : PutV w s b gv gm gd k S V W) (hs : s'.Ok) (hb : Le.U8s ys') (hl : ys'.length ≤ 200) (hn : s' ∉ V.map (·.1)) (hv : V.length < 40) (hy : y ≤ k)
    (hva : VaultAt w' gv gm gd (place V 0 ++ [(s', V.length)])) (hd : Disk.Disk w' (Plus S W w') gd 300 (puts (cellsOf V ++ List.replicate (40 - V.length) []) ([] ++ [((V.length : Int), cellOf s' ys')])) [] ((y : Int) + 1)) (hc : Chg (fun i => S i ∨ i = gm) W w') :
    PutV w s b gv gm gd (k + 1) (Plus S W w') (V ++ [(s', ys')]) w' := by
  have hw : w.heap.size ≤ W.heap.size := h.ext.size
  have hlt := h.va.lt
  have hbl := Pack.lt_of_at h.bAt
  rw [puts_one V _ hv] at hd
  have e : cellsOf V ++ cellOf s' ys' :: List.replicate (39 - V.length) [] = cellsOf (V ++ [(s', ys')]) ++ List.replicate (40 - (V ++ [(s', ys')]).length) [] := by
    rw [cellsOf_snoc, List.append_assoc, List.length_append, show 40 - (V.length + [(s', ys')].length) = 39 - V.length by simp only [List.length_singleton]; omega]
    rfl
  rw [e] at hd
  exact ⟨by rw [place_snoc]; exact hva, ⟨y + 1, by omega, by simpa using hd⟩, fine_snoc h.fine hs hb (by omega) hn, fun p hp => (List.mem_append.1 hp).elim (h.short p) fun hp => by simp at hp; subst hp; exact hl, by have := h.few; simp; omega, Plus.fresh h.fresh hw,
    fun k => k.elim h.ngv fun k => by omega, fun k => k.elim h.ngm fun k => by omega, fun k => k.elim h.nb fun k => by omega, h.bgv, h.bgm, h.wgv, h.wgm, hc.at_ h.bAt (fun k => k.elim h.nb h.bgm), h.ext.chg hc fun i hi => hi.elim (h.fresh i) fun hi => by rw [hi]; exact h.wgm⟩
theorem off_plus {w W w' : World} {S : Nat → Prop} {gv gm b : Nat} : ∀ i, i < W.heap.size → Off3 w S gv gm b i → Off3 w (Plus S W w') gv gm b i := fun i hi h => ⟨h.1, fun k => k.elim h.2.1 fun k => by omega, h.2.2⟩
theorem PutR.put {w : World} {b gv gm : Nat} {S : Nat → Prop} {V : Shards} {An : Option Addr} {cn : Nat} {Ad : Option Addr} {cd : Nat} {dvs : List Value} {W w' : World} (h : PutR w b gv gm S V An cn Ad cd dvs W) (hc : Chg (fun i => S i ∨ i = gm) W w') : PutR w b gv gm (Plus S W w') V An cn Ad cd dvs w' := by
  have hd : ∀ i, Off3 w S gv gm b i → ¬ (S i ∨ i = gm) := fun i hi k => k.elim hi.2.1 hi.2.2.2.1
  exact ⟨(h.names.mono off_plus).chg hc (fun i hi k => k.elim (fun k => hi.2.1 (.inl k)) hi.2.2.2.1), (h.datas.mono off_plus).chg hc (fun i hi k => k.elim (fun k => hi.2.1 (.inl k)) hi.2.2.2.1), h.each⟩
/-- Worlds of which the second only has more blocks. -/
class IsExt (a b : World) : Prop where
  out : Ext a b
instance (a : World) : IsExt a a := ⟨Ext.refl a⟩
instance (a b : World) (o : Obj) [h : IsExt a b] : IsExt a (b.alloc o) := ⟨h.out.alloc o⟩
instance (a b : World) [h : IsExt a b] : IsExt a b.drew := ⟨h.out.drew⟩
theorem off_new {w : World} {s : Sh} {b gv gm gd k : Nat} {S : Nat → Prop} {V : Shards} {wr : World} (h : PutV w s b gv gm gd k S V wr) : ∀ i, wr.heap.size ≤ i → Off3 w S gv gm b i := fun i hi => by
  obtain ⟨y, _, hd⟩ := h.dk
  have h1 : w.heap.size ≤ wr.heap.size := h.ext.size
  have h2 := h.va.lt
  have h3 := Pack.lt_of_at h.bAt
  exact ⟨by omega, fun k => by have := hd.lt i k; omega, by omega, by omega, by omega⟩
theorem lit_a {w : World} {C : Array Value} {T : TypeId} : (w.alloc (.cells C T)).heap[w.heap.size]? = some (.cells C T (0, 0)) := at_new _ _
theorem lit_b {w : World} {C : Array Value} {T : TypeId} {o : Obj} : ((w.alloc (.cells C T)).alloc o).heap[w.heap.size]? = some (.cells C T (0, 0)) := (Ext.new _ _).at_ (at_new _ _)
theorem lit_c {w : World} {C : Array Value} {T : TypeId} {o : Obj} : ((w.alloc o).alloc (.cells C T)).heap[w.heap.size + 1]? = some (.cells C T (0, 0)) := by
  have := at_new (w.alloc o) (.cells C T)
  simpa using this
theorem lit_cell {w : World} {g : Nat} {C : Array Value} {T : TypeId} {vs : List Value} (h : w.heap[g]? = some (.cells C T (0, 0))) (hv : C.toList = vs) : ∀ j u, vs[j]? = some u → w.cell? ⟨g, j, none⟩ = some u := fun j u hu => by
  subst hv
  exact blk_cell h (Ext.refl _) (by simpa using hu)
theorem PutR.snoc {w : World} {b gv gm : Nat} {S : Nat → Prop} {V : Shards} {An : Option Addr} {cn : Nat} {Ad : Option Addr} {cd : Nat} {dvs : List Value} {W w' : World} {A1 : Option Addr} {e1 : Nat} {A2 : Option Addr} {e2 : Nat} {ad : Addr} {i0 : Nat} {x : Act} (h : PutR w b gv gm S V An cn Ad cd dvs W) (ha : ActAt w ad i0 x)
    (hn : Own w' (Off3 w S gv gm b) 80 4 (.slice A1 (V.length + 1) e1) (V.length + 1) ((V.flatMap fun p => shC p.1) ++ shC (shA x))) (hd : Own w' (Off3 w S gv gm b) 22 1 (.slice A2 (V.length + 1) e2) (V.length + 1) (dvs ++ [.slice (adA x) (lenA x) (capA x)])) :
    PutR w b gv gm S (V ++ [(shA x, byA x)]) A1 e1 A2 e2 (dvs ++ [.slice (adA x) (lenA x) (capA x)]) w' := by
  have hl : (V ++ [(shA x, byA x)]).length = V.length + 1 := by simp
  have hdl : dvs.length = V.length := by have := h.datas.row.1; omega
  refine ⟨by rw [hl]; simpa using hn, by rw [hl]; exact hd, fun i p hp => ?_⟩
  rcases Nat.lt_or_ge i V.length with hi | hi
  · rw [List.getElem?_append_left hi] at hp
    obtain ⟨D, dc, h1, h2⟩ := h.each i p hp
    exact ⟨D, dc, by rw [List.getElem?_append_left (by omega)]; exact h1, h2⟩
  · rw [List.getElem?_append_right hi] at hp
    have h0 : i - V.length = 0 := by
      have := (List.getElem?_eq_some_iff.1 hp).1
      simp at this
      omega
    rw [h0] at hp
    have hp : (shA x, byA x) = p := by simpa using hp
    subst hp
    have hll := ha.rd.len
    refine ⟨adA x, capA x, ?_, ?_⟩
    · rw [List.getElem?_append_right (by omega), hdl, h0, hll]
      rfl
    · rw [hll]
      exact ha.rd
/-- An append of one element that a literal has laid, at a step of a region that draws. -/
theorem step_appE {P : Program} {ops : Array Oper} {o : Oper} {a : Go.Act} {K : Go.Act → World → Prop} {Q : Exit → Go.Act → World → Prop} {E : Prop} (w : World) (hgd : o.guard = none) (s x : Operand) (t : TypeId)
    (ho : o.op = .call { callee := .builtin .append, args := #[s, x], argTypes := #[t, t] })
    (S : Nat → Prop) (e : TypeId) (z : Value) (size bytes : Nat) (ht : P.underlying t = some (.slice e)) (hinfo : (P.info? e).map (fun i => (i.zero, i.size, i.bytes)) = some (some z, size, bytes)) (hzs : z.cells.size = size) (hsz : 0 < size) (hb0 : 0 < bytes)
    (v : Value) (n : Nat) (xs : List Value) (hs : a.eval s = v) (hown : Own w S e size v n xs) (g c : Nat) (vs : List Value) (hx : a.eval x = .slice (some ⟨g, 0, none⟩) 1 c) (hl : vs.length = size) (h1 : ∀ u ∈ vs, u.oneCell' = true)
    (hbytes : (n + 1) * bytes ≤ 140737488355328) (hS : ∀ i, w.heap.size ≤ i → S i) (hc : ∀ j u, vs[j]? = some u → w.cell? ⟨g, j, none⟩ = some u)
    (h : ∀ A' c' w', Own w' S e size (.slice A' (n + 1) c') (n + 1) (xs ++ vs) → Chg (fun i => v.ownBlock = some i) w w' → K (a.put o.dst (.slice A' (n + 1) c')) w') : if Region.wanted o (yielded ops a.tmps) = true then Oper.wp P o a w K Q else E := by
  have hw : Region.wanted o (yielded ops a.tmps) = true := by simp [Region.wanted, hgd]
  rw [if_pos hw]
  obtain ⟨i, hi, hz, hsize, hby⟩ := info_parts hinfo
  have hga : ∀ j, (⟨g, 0, none⟩ : Addr).add j = ⟨g, j, none⟩ := fun j => by unfold Addr.add; split <;> simp_all
  have hlen : n + 1 ≤ 140737488355328 := Nat.le_trans (Nat.le_mul_of_pos_right _ hb0) hbytes
  obtain ⟨v', w', hrun, h2, h3, _, h5⟩ := run_append_own_at (P := P) w 0 t o.type e i z size bytes ht hi hz hsize hby hzs hsz v n xs hown.row ⟨g, 0, none⟩ 1 c vs (by simp [hl])
    (fun j u hu => by rw [hga]; exact hc j u hu) h1 (by simp only [maxLen]; omega) hbytes (Nat.zero_le _)
  obtain ⟨A', c', rfl⟩ := own_slice h2
  unfold Oper.wp execOp
  simp only [ho, resolve, invoke, builtin, Sem.run_bind, Sem.run_pure, Result.andThen_ok, List.map_toArray, List.map_cons, List.map_nil, hs, hx, hrun]
  refine h A' c' w' ⟨h2, fun k hk => ?_⟩ ((Chg.refl _ _).grown h3 fun k hk => hk)
  rcases h5 with h5 | h5
  · exact hown.foot k (by rw [← h5]; exact hk)
  · rw [h5] at hk
    cases hk
    exact hS _ (Nat.le_refl _)
/-- Behind the shard that was begun, or was not. -/
structure Beg (w : World) (s : Sh) (ys : List Int) (b gv gm gd : Nat) (S : Nat → Prop) (V : Shards) (An : Option Addr) (cn : Nat) (Ad : Option Addr) (cd : Nat) (dvs : List Value) (fr : Bool) (wx : World) : Prop where
  dk : ∃ (y : Nat) (L : List (Int × List Int)), y ≤ 100 ∧ Disk.Disk wx S gd 300 (cellsOf V ++ List.replicate (40 - V.length) []) L y ∧ ((fr = false ∧ L = []) ∨ (fr = true ∧ L = [] ++ [((V.length : Int), cellOf s ys)] ∧ s ∉ V.map (·.1)))
  rows : PutR w b gv gm S V An cn Ad cd dvs wx
  nb : ¬ S b
  fresh : Fresh w S
  bAt : wx.heap[b]? = some (shBlk s)
  ext : Ext w wx
/-- Behind a crash. -/
structure Cra (w : World) (s : Sh) (ys : List Int) (b gv gm gd : Nat) (V V' : Shards) (T : List (List Int)) (An : Option Addr) (cn : Nat) (Ad : Option Addr) (cd : Nat) (dvs : List Value) (fr : Bool) (wx : World) : Prop where
  dk : ∃ (S : Nat → Prop) (y : Nat), Disk.Disk wx S gd 300 (cellsOf V' ++ T) [] y ∧ PutR w b gv gm S V An cn Ad cd dvs wx
  fine : fine V'
  none : ∀ xs ∈ T, readV xs = none
  which : V' = V ∨ (fr = true ∧ V' = V ++ [(s, ys)] ∧ s ∉ V.map (·.1))
  new : fr = true → s ∉ V.map (·.1)
  len : (cellsOf V' ++ T).length = 40
  bAt : wx.heap[b]? = some (shBlk s)
  ext : Ext w wx
theorem Cra.ext_ {w : World} {s : Sh} {ys : List Int} {b gv gm gd : Nat} {V V' : Shards} {T : List (List Int)} {An : Option Addr} {cn : Nat} {Ad : Option Addr} {cd : Nat} {dvs : List Value} {fr : Bool} {wx wy : World} (h : Cra w s ys b gv gm gd V V' T An cn Ad cd dvs fr wx) (he : Ext wx wy) : Cra w s ys b gv gm gd V V' T An cn Ad cd dvs fr wy := by
  obtain ⟨S, y, h1, h2⟩ := h.dk
  exact ⟨⟨S, y, h1.ext he, h2.ext_ he⟩, h.fine, h.none, h.which, h.new, h.len, he.at_ h.bAt, h.ext.trans he⟩
theorem crash_len (cells : List (List Int)) (loose : List (Int × List Int)) (k b : Int) : (crash cells loose k b).length = cells.length := by
  unfold crash
  simp only
  split <;> simp [DiskP.puts_length, put1]
theorem Beg.crash {w : World} {s : Sh} {ys : List Int} {b gv gm gd : Nat} {S : Nat → Prop} {V : Shards} {An : Option Addr} {cn : Nat} {Ad : Option Addr} {cd : Nat} {dvs : List Value} {fr : Bool} {wx wy : World} {y : Nat} {L : List (Int × List Int)} (h : Beg w s ys b gv gm gd S V An cn Ad cd dvs fr wx) (keep bytes : Int) (hf : fine V) (hv : V.length < 40) (hs : s.Ok) (hb : Le.U8s ys) (hl : ys.length ≤ 60000)
    (hL : (fr = false ∧ L = []) ∨ (fr = true ∧ L = [] ++ [((V.length : Int), cellOf s ys)] ∧ s ∉ V.map (·.1)))
    (hd : Disk.Disk wy (Plus S wx wy) gd 300 (DiskP.crash (cellsOf V ++ List.replicate (40 - V.length) []) L keep bytes) [] y) (hc : Chg S wx wy) : ∃ V' T, Cra w s ys b gv gm gd V V' T An cn Ad cd dvs fr wy := by
  have hrows := h.rows.put (hc.mono fun _ _ k => .inl k)
  have hbat := hc.at_ h.bAt h.nb
  have hext := h.ext.chg hc h.fresh
  have hcl := crash_len (cellsOf V ++ List.replicate (40 - V.length) []) L keep bytes
  rw [List.length_append, cellsOf_len, List.length_replicate, show V.length + (40 - V.length) = 40 by omega] at hcl
  rcases hL with ⟨h1, h2⟩ | ⟨h1, h2, h3⟩
  · subst h2
    rw [crash_nil] at hd hcl
    exact ⟨V, _, ⟨_, _, hd, hrows⟩, hf, fun xs hx => by rw [(List.mem_replicate.1 hx).2]; exact VaultP.readV_nil, .inl rfl, fun k => (by rw [h1] at k; cases k), hcl, hbat, hext⟩
  · subst h2
    obtain ⟨V', T, e1, e2, e3, e4⟩ := crash_ends V hf hv s ys hs hb hl h3 keep bytes
    rw [e1] at hd hcl
    exact ⟨V', T, ⟨_, _, hd, hrows⟩, e2, e3, e4.imp id fun k => ⟨h1, k, h3⟩, fun _ => h3, hcl, hbat, hext⟩
theorem place_nodup {V : Shards} (h : fine V) : ((place V 0).map (·.1)).Nodup := by
  rw [place_fst]
  exact h.2
theorem place_one {V : Shards} (h : fine V) {j c : Nat} {p : Sh × List Int} (hp : V[j]? = some p) (hc : (p.1, c) ∈ place V 0) : c = j :=
  Vault.nodup_fun (place_nodup h) hc (place_mem.2 ⟨p, hp, rfl⟩)
/-- What is there is got. -/
theorem got_one {V : Shards} {T : List (List Int)} (h : fine V) {j : Nat} {p : Sh × List Int} (hp : V[j]? = some p) {w w' : World} {e : Ending}
    (hg : (p.1 ∉ (place V 0).map (·.1) ∧ e = .returned (.tuple #[.slice none 0 0, .int .i64 6])) ∨ ∃ c : Nat, (p.1, c) ∈ place V 0 ∧ Vault.Got p.1 (readC (cellsOf V ++ T) [] c) w e w') :
    ∃ A c, e = .returned (.tuple #[.slice A p.2.length c, .int .i64 0]) ∧ New w w' 5 1 A p.2.length c (nums .u8 p.2) := by
  rcases hg with ⟨h1, _⟩ | ⟨c, h1, h2⟩
  · exact absurd (List.mem_map.2 ⟨_, place_mem.2 ⟨p, hp, rfl⟩, rfl⟩) h1
  · obtain rfl := place_one h hp h1
    obtain ⟨k1, k2, k3⟩ := h.1 p (List.mem_of_getElem? hp)
    obtain ⟨e1, e2, e3⟩ := cell_tells k1 k2 k3
    rw [read_cell hp] at h2
    rcases h2 with ⟨h3, _⟩ | ⟨_, h3, _⟩ | ⟨_, _, A, c', h3, h4⟩
    · exact absurd e1 h3
    · exact absurd e2 h3
    · rw [e3] at h3 h4
      exact ⟨A, c', h3, h4⟩
theorem cell_one {V : Shards} (h : fine V) {j : Nat} {p : Sh × List Int} (hp : V[j]? = some p) {e : Ending} (hg : (p.1 ∉ (place V 0).map (·.1) ∧ e = .returned (.int .i64 (-1))) ∨ ∃ c : Nat, (p.1, c) ∈ place V 0 ∧ e = .returned (.int .i64 c)) : e = .returned (.int .i64 j) := by
  rcases hg with ⟨h1, _⟩ | ⟨c, h1, h2⟩
  · exact absurd (List.mem_map.2 ⟨_, place_mem.2 ⟨p, hp, rfl⟩, rfl⟩) h1
  · rw [place_one h hp h1] at h2
    exact h2
set_option maxRecDepth 100000 in
set_option maxHeartbeats 8000000 in
theorem walk (A : Option Addr) (n c : Nat) (l : List Act) (s : Sh) (B : Option Addr) (m cb : Nat) (ys : List Int) (keep bytes : Int) (w : World) (hl : (Shape.Sh.sl actS).ok w (A, n, c, l)) (hs : s.Ok) (hb : Rd w .u8 B m ys) (hm : m * 1 ≤ 140737488351232)
    (hk : (Lit.int .i64 keep).wf = true) (hy : (Lit.int .i64 bytes).wf = true) :
    Calls Try.prog 9 #[.slice A n c, shV s, .slice B m cb, .int .i64 keep, .int .i64 bytes] w fun e w' => e = .returned (.bool true) ∧ Ext w w' := by
  have HL := Lib.hid hl
  have HS := Lib.hid hs
  have HB := Lib.hid hb
  have HK := Lib.hid hk
  have HY := Lib.hid hy
  have hn : n ≤ 9223372036854775807 := by have h1 := hl.2.1; have h2 := hl.2.2.1; simp only [maxLen] at h2; exact Nat.le_trans h1 (by omega)
  have HB0 := Lib.hid (at_new w (shBlk s))
  have HE0 := Lib.hid (Ext.new w (shBlk s))
  have hsz0 : (w.alloc (shBlk s)).heap.size = w.heap.size + 1 := by simp
  clear hl hs hb hk hy
  go_enter Try.func9, Try.ntmps9
  go_upto_region 1 with fail
  generalize w.alloc (shBlk s) = w0 at *
  go_wp2_with fail
  refine (Vault.awake_calls _).mono ?_
  rintro e w1 ⟨rfl, he1⟩
  have HE1 := Lib.hid (HE0.out.trans he1)
  have HB1 := Lib.hid (he1.at_ HB0.out)
  have hs1 := he1.size
  clear he1
  go_wp2_with fail
  refine (light_calls A n c l w1 (Shape.Sh.ok_ext HE1.out _ _ HL.out)).mono ?_
  rintro e w' ⟨rfl, lt, rfl, hlt⟩
  have HLT := Lib.hid hlt
  clear hlt
  by_cases hgo : lt = true ∧ m ≤ 200
  · obtain ⟨hlt, hm200⟩ := hgo
    subst hlt
    obtain ⟨hn30, hl200⟩ := HLT.out rfl
    have HL200 := Lib.hid hl200
    have hm1 : ¬ (200 : Int) < m := by omega
    clear hl200
    go_wp2_with fail
    refine (Disk.new_calls 40 300 _ (by omega) (by omega) (by omega) (by omega)).mono ?_
    rintro e w2 ⟨gd, rfl, he2, hd2⟩
    have HE2 := Lib.hid (HE1.out.trans he2)
    have HB2 := Lib.hid (he2.at_ HB1.out)
    have HD2 := Lib.hid hd2
    have hs2 := he2.size
    have HF2 := Lib.hid (show ∀ i, Plus (fun _ => False) w1 w2 i → w1.heap.size ≤ i from fun i hi => hi.elim (fun h => h.elim) fun h => h.1)
    generalize Plus (fun _ => False) w1 w2 = S2 at *
    clear he2 hd2
    go_wp2_with fail
    refine (Vault.open_calls S2 gd 300 _ [] 0 w2 HD2.out (by simp)).mono ?_
    rintro e w3 ⟨gv, gm, rfl, he3, hv3, hg1, hg2, hg3, hg4⟩
    have HE3 := Lib.hid (HE2.out.trans he3)
    have HB3 := Lib.hid (he3.at_ HB2.out)
    have hfo : foundN (List.replicate 40 []) [] (List.replicate 40 ([] : List Int)).length = place [] 0 := foundN_all (V := []) (T := List.replicate 40 []) rfl ⟨by simp, by simp⟩ (fun xs hx => by rw [(List.mem_replicate.1 hx).2]; exact VaultP.readV_nil)
    rw [hfo] at hv3
    have hlt2 := HD2.out.lt
    have hJ0 : PutV w s w.heap.size gv gm gd 0 S2 [] w3 :=
      ⟨hv3, ⟨0, Nat.le_refl _, HD2.out.ext he3⟩, ⟨by simp, by simp⟩, by simp, Nat.le_refl _, fun i hi => by have := HF2.out i hi; omega, fun k => by have := hlt2 _ k; omega, fun k => by have := hlt2 _ k; omega, fun k => by have := HF2.out _ k; omega, by omega, by omega, by omega, by omega, HB3.out, HE3.out⟩
    have HJ0 := Lib.hid hJ0
    have HR0 : Hid (PutR w w.heap.size gv gm S2 [] none 0 none 0 [] w3) := Lib.hid ⟨Own.nil _ _ _ _, Own.nil _ _ _ _, by simp⟩
    clear hfo hv3 he3 hlt2 hJ0 HLT hsz0 hs1 hs2
    go_wp2_with fail
    go_loopg [15, 16, 17] n (fun g nm dt i wr => ∃ k : Nat, k ≤ n ∧ g = n - k ∧ i = .int .i64 k ∧ ∃ (V : Shards) (An : Option Addr) (cn : Nat) (Ad : Option Addr) (cd : Nat), nm = .slice An V.length cn ∧ dt = .slice Ad V.length cd ∧ Hid (∃ S dvs, PutV w s w.heap.size gv gm gd k S V wr ∧ PutR w w.heap.size gv gm S V An cn Ad cd dvs wr))
    case atStart => exact ⟨0, Nat.zero_le _, rfl, rfl, [], none, 0, none, 0, rfl, rfl, Lib.hid ⟨S2, [], HJ0.out, HR0.out⟩⟩
    case round =>
      clear HJ0 HR0 HD2 HB3 HE3 HE2 HB2 HF2
      obtain ⟨k, hkn, rfl, rfl, V, An, cn, Ad, cd, rfl, rfl, hrel⟩ := hrel
      obtain ⟨S, dvs, hpv, hpr⟩ := hrel.out
      have HPV := Lib.hid hpv
      have HPR := Lib.hid hpr
      clear hrel hpv hpr
      by_cases hlt : k < n
      · obtain ⟨ad, x, rfl, hx, hat⟩ := act_at HL.out hlt
        have HX := Lib.hid (HL200.out x (List.mem_of_getElem? hx))
        have HAT := Lib.hid (hat.ext HPV.out.ext)
        have HRX := Lib.hid hat.rd
        have HAT0 := Lib.hid hat
        clear hx hat
        have c0 : ∀ W, Ext wr.drew W → W.cell? _ = some _ := fun W hW => (drew_ext hW).cell_ HAT.out.s0
        have c1 : ∀ W, Ext wr.drew W → W.cell? _ = some _ := fun W hW => (drew_ext hW).cell_ HAT.out.s1
        have c2 : ∀ W, Ext wr.drew W → W.cell? _ = some _ := fun W hW => (drew_ext hW).cell_ HAT.out.s2
        have c3 : ∀ W, Ext wr.drew W → W.cell? _ = some _ := fun W hW => (drew_ext hW).cell_ HAT.out.s3
        have c5 : ∀ W, Ext wr.drew W → W.cell? _ = some _ := fun W hW => (drew_ext hW).cell_ HAT.out.b
        go_upto_region 12 with fail
        refine Lex.wp_region_u [0, 1, 2, 3, 4, 5, 6, 7, 8, 9, 10] [11, 12] [] (by kernel_rfl) (by kernel_rfl) (by repeat (first | exact Lex.st_nil | refine Lex.st_cons (by first | exact Lex.nums_st | exact Lex.const_st | exact Lex.such_st | exact Lex.row_st | exact Lex.rowE_st | exact Lex.litR_st | assumption) ?_)) ?_; simp only [Lex.pick, List.getElem?_cons_succ, List.getElem?_cons_zero, List.map_cons, List.map_nil]
        repeat (first | (refine Lex.lexU_skip (by rfl) ?_; simp only [Act.put, List.setIfInBounds_toArray, List.set_cons_zero, List.set_cons_succ]) | (refine Lex.lexU_still (by rfl) (by rfl) (by first | exact Base.Ext.refl | exact Lex.Fill.refl) ?_; apply Exists.intro; refine ⟨fun W hW => ?_, ?_⟩; (have hE := Lex.ext_of_cls hW.1; have hE2 := Lex.ext_drew hE; clear hW; go_simp; try with_reducible rfl); simp only [Act.put, List.setIfInBounds_toArray, List.set_cons_zero, List.set_cons_succ]))
        refine Lex.lexU_nil (fun W hW => ?_)
        have hE := Lib.hid (Lex.ext_drew hW.1)
        clear hW c0 c1 c2 c3 c5
        have HPV1 := Lib.hid (HPV.out.ext_ hE.out (Nat.le_refl _))
        have HPR1 := Lib.hid (HPR.out.ext_ hE.out)
        have HAT1 := Lib.hid (HAT.out.ext hE.out)
        go_wp2_with fail
        have hfew := HPV.out.few
        have hv40 : V.length < 40 := by omega
        have hmc : V.length < (cellsOf V ++ List.replicate (40 - V.length) []).length := by rw [List.length_append, cellsOf_len, List.length_replicate]; omega
        obtain ⟨y, hy, hdk⟩ := HPV1.out.dk
        have hlx : (lenA x) ≤ 200 := HX.out
        by_cases hmem : shA x ∈ V.map (·.1)
        · refine (Vault.put_twice S gv gm gd (place V 0) 300 _ [] y (shA x) (adA x) (lenA x) (capA x) (byA x) W HPV1.out.va hdk HAT1.out.ok HAT1.out.rd (by omega) (by rw [place_fst]; exact hmem)).mono ?_
          rintro e w6 ⟨rfl, he6⟩
          have HPV2 := Lib.hid (HPV1.out.ext_ he6 (Nat.le_succ k))
          have HPR2 := Lib.hid (HPR1.out.ext_ he6)
          clear hdk he6
          go_wp2_with fail
          simp only [Lex.onlyN]
          go_wp2_with fail
          go_roundg (n - (k + 1))
          case measure => omega
          case rel => exact ⟨k + 1, by omega, rfl, by first | rfl | go_num, V, An, cn, Ad, cd, rfl, rfl, Lib.hid ⟨S, dvs, HPV2.out, HPR2.out⟩⟩
        · refine (Vault.put_new S gv gm gd (place V 0) 300 _ [] y (shA x) (adA x) (lenA x) (capA x) (byA x) W HPV1.out.va hdk HAT1.out.ok HAT1.out.rd (by omega) (by rw [place_fst]; exact hmem) (by omega) V.length hmc (fun j hj => place_snd.2 hj) (fun k => by have := place_snd.1 k; omega) (fun p hp => by have := place_lt hp; omega) (by rw [place_len]; omega) (by simp) HPV1.out.ngv HPV1.out.ngm (by omega)).mono ?_
          rintro e w6 ⟨rfl, hva6, hd6, hc6⟩
          have hlb := HAT1.out.rd.len
          have HPV2 := Lib.hid (HPV1.out.put HAT1.out.ok (fun z hz => wf_u8 (HAT1.out.rd.wf z hz)) (by omega) hmem hv40 hy hva6 hd6 hc6)
          have HPR2 := Lib.hid (HPR1.out.put hc6)
          have HMEM := Lib.hid hmem
          generalize Plus S W w6 = S6 at *
          clear hdk hva6 hd6 hc6 hmem hmc
          go_wp2_with fail
          simp only [Lex.onlyN]
          go_upto_region 13 with fail
          have hat6 := HAT0.out.ext HPV2.out.ext
          have a0 := hat6.s0
          have a1 := hat6.s1
          have a2 := hat6.s2
          have a3 := hat6.s3
          have a5 := hat6.b
          have a01 : ∀ o, (w6.alloc o).cell? _ = some _ := fun o => (Ext.new w6 o).cell_ hat6.s0
          have a11 : ∀ o, (w6.alloc o).cell? _ = some _ := fun o => (Ext.new w6 o).cell_ hat6.s1
          have a21 : ∀ o, (w6.alloc o).cell? _ = some _ := fun o => (Ext.new w6 o).cell_ hat6.s2
          have a31 : ∀ o, (w6.alloc o).cell? _ = some _ := fun o => (Ext.new w6 o).cell_ hat6.s3
          have a51 : ∀ o, (w6.alloc o).cell? _ = some _ := fun o => (Ext.new w6 o).cell_ hat6.b
          clear hat6
          have o1 : ∀ u ∈ shC (shA x), u.oneCell' = true := by simp [shC, Value.oneCell']
          have l1 : (shC (shA x)).length = 4 := rfl
          have o2 : ∀ u ∈ [Value.slice (adA x) (lenA x) (capA x)], u.oneCell' = true := by simp [Value.oneCell']
          have l2 : ([Value.slice (adA x) (lenA x) (capA x)] : List Value).length = 1 := rfl
          have p1 : 0 < 1 := by decide
          have p4 : 0 < 4 := by decide
          have p12 : 0 < 12 := by decide
          have p24 : 0 < 24 := by decide
          have b12 : (V.length + 1) * 12 ≤ 140737488355328 := by omega
          have b24 : (V.length + 1) * 24 ≤ 140737488355328 := by omega
          have ne1 : 22 ≠ 80 := by decide
          have ne2 : 80 ≠ 22 := by decide
          have OFF := Lib.hid (off_new HPV2.out)
          go_region_law (first
            | (refine step_appE _ (by rfl) _ _ _ (by rfl) (Off3 w S6 gv gm w.heap.size) 80 _ 4 12 Try.underlying88 info_sh rfl p4 p12 (.slice An V.length cn) V.length (V.flatMap fun p => shC p.1) (by rfl) (HPR2.out.names.extNew IsExt.out) (w6.heap.size) 1 (shC (shA x)) (by rfl) l1 o1 b12 (fun i hi => OFF.out i (Nat.le_trans (IsExt.out (a := w6)).size hi)) ?_ ?_; (focus (first | exact lit_cell lit_a rfl | exact lit_cell lit_b rfl | exact lit_cell lit_c rfl)); intro A1 e1 w7 ho1 hc1; have HN1 := Lib.hid ho1; have HD1 := Lib.hid (Own.kind (HPR2.out.datas.extNew IsExt.out) hc1 (own_kinds (HPR2.out.names.extNew IsExt.out) ne1)); have HC1 := Lib.hid ((Below.chg (S := Off3 w S6 gv gm w.heap.size) (IsExt.out (a := w6))).trans (hc1.mono fun i _ k => HPR2.out.names.foot i k)); have HL2 := Lib.hid (fun (g : Nat) (C : Array Value) (fr : Nat × Nat) (h : _) => hc1.at_ (i := g) (o := .cells C 22 fr) h ((HPR2.out.names.extNew IsExt.out).ne h ne2)); have x5 := (HPV2.out.ext.chg HC1.out (fun i hi => hi.1)).cell_ HAT0.out.b; have x51 : ∀ o, (w7.alloc o).cell? _ = some _ := fun o => (Ext.new w7 o).cell_ x5; clear ho1 hc1)
            | (refine step_appE _ (by rfl) _ _ _ (by rfl) (Off3 w S6 gv gm w.heap.size) 80 _ 4 12 Try.underlying88 info_sh rfl p4 p12 (.slice An V.length cn) V.length (V.flatMap fun p => shC p.1) (by rfl) (HPR2.out.names.extNew IsExt.out) (w6.heap.size + 1) 1 (shC (shA x)) (by rfl) l1 o1 b12 (fun i hi => OFF.out i (Nat.le_trans (IsExt.out (a := w6)).size hi)) ?_ ?_; (focus (first | exact lit_cell lit_a rfl | exact lit_cell lit_b rfl | exact lit_cell lit_c rfl)); intro A1 e1 w7 ho1 hc1; have HN1 := Lib.hid ho1; have HD1 := Lib.hid (Own.kind (HPR2.out.datas.extNew IsExt.out) hc1 (own_kinds (HPR2.out.names.extNew IsExt.out) ne1)); have HC1 := Lib.hid ((Below.chg (S := Off3 w S6 gv gm w.heap.size) (IsExt.out (a := w6))).trans (hc1.mono fun i _ k => HPR2.out.names.foot i k)); have HL2 := Lib.hid (fun (g : Nat) (C : Array Value) (fr : Nat × Nat) (h : _) => hc1.at_ (i := g) (o := .cells C 22 fr) h ((HPR2.out.names.extNew IsExt.out).ne h ne2)); have x5 := (HPV2.out.ext.chg HC1.out (fun i hi => hi.1)).cell_ HAT0.out.b; have x51 : ∀ o, (w7.alloc o).cell? _ = some _ := fun o => (Ext.new w7 o).cell_ x5; clear ho1 hc1)
            | (refine step_appE _ (by rfl) _ _ _ (by rfl) (Off3 w S6 gv gm w.heap.size) 22 _ 1 24 Try.underlying25 info_sl rfl p1 p24 (.slice Ad V.length cd) V.length dvs (by rfl) (HD1.out.extNew IsExt.out) (w7.heap.size) 1 [.slice (adA x) (lenA x) (capA x)] (by rfl) l2 o2 b24 (fun i hi => OFF.out i (Nat.le_trans (Nat.le_trans HC1.out.size (IsExt.out (a := w7)).size) hi)) ?_ ?_; (focus (first | exact lit_cell lit_a rfl | exact lit_cell (HL2.out _ _ _ lit_a) rfl | exact lit_cell (HL2.out _ _ _ lit_b) rfl | exact lit_cell (HL2.out _ _ _ lit_c) rfl)); intro A2 e2 w8 ho2 hc2; have HN2 := Lib.hid (Own.kind (HN1.out.extNew IsExt.out) hc2 (own_kinds (HD1.out.extNew IsExt.out) ne2)); have HD2 := Lib.hid ho2; have HC2 := Lib.hid ((HC1.out.trans (Below.chg (IsExt.out (a := w7)))).trans (hc2.mono fun i _ k => HD1.out.foot i k)); clear ho2 hc2)
            | (refine step_appE _ (by rfl) _ _ _ (by rfl) (Off3 w S6 gv gm w.heap.size) 22 _ 1 24 Try.underlying25 info_sl rfl p1 p24 (.slice Ad V.length cd) V.length dvs (by rfl) (HD1.out.extNew IsExt.out) (w6.heap.size) 1 [.slice (adA x) (lenA x) (capA x)] (by rfl) l2 o2 b24 (fun i hi => OFF.out i (Nat.le_trans (Nat.le_trans HC1.out.size (IsExt.out (a := w7)).size) hi)) ?_ ?_; (focus (first | exact lit_cell lit_a rfl | exact lit_cell (HL2.out _ _ _ lit_a) rfl | exact lit_cell (HL2.out _ _ _ lit_b) rfl | exact lit_cell (HL2.out _ _ _ lit_c) rfl)); intro A2 e2 w8 ho2 hc2; have HN2 := Lib.hid (Own.kind (HN1.out.extNew IsExt.out) hc2 (own_kinds (HD1.out.extNew IsExt.out) ne2)); have HD2 := Lib.hid ho2; have HC2 := Lib.hid ((HC1.out.trans (Below.chg (IsExt.out (a := w7)))).trans (hc2.mono fun i _ k => HD1.out.foot i k)); clear ho2 hc2)
            | (refine step_appE _ (by rfl) _ _ _ (by rfl) (Off3 w S6 gv gm w.heap.size) 22 _ 1 24 Try.underlying25 info_sl rfl p1 p24 (.slice Ad V.length cd) V.length dvs (by rfl) (HD1.out.extNew IsExt.out) (w6.heap.size + 1) 1 [.slice (adA x) (lenA x) (capA x)] (by rfl) l2 o2 b24 (fun i hi => OFF.out i (Nat.le_trans (Nat.le_trans HC1.out.size (IsExt.out (a := w7)).size) hi)) ?_ ?_; (focus (first | exact lit_cell lit_a rfl | exact lit_cell (HL2.out _ _ _ lit_a) rfl | exact lit_cell (HL2.out _ _ _ lit_b) rfl | exact lit_cell (HL2.out _ _ _ lit_c) rfl)); intro A2 e2 w8 ho2 hc2; have HN2 := Lib.hid (Own.kind (HN1.out.extNew IsExt.out) hc2 (own_kinds (HD1.out.extNew IsExt.out) ne2)); have HD2 := Lib.hid ho2; have HC2 := Lib.hid ((HC1.out.trans (Below.chg (IsExt.out (a := w7)))).trans (hc2.mono fun i _ k => HD1.out.foot i k)); clear ho2 hc2))
          all_goals
            go_wp2_with fail
            go_roundg (n - (k + 1))
            case measure => omega
            case rel =>
              refine ⟨k + 1, by omega, rfl, by first | rfl | go_num, V ++ [(shA x, byA x)], A1, e1, A2, e2, by simp, by simp, Lib.hid ⟨S6, dvs ++ [.slice (adA x) (lenA x) (capA x)], HPV2.out.chg HC2.out (fun _ k => k), HPR2.out.snoc HAT0.out HN2.out HD2.out⟩⟩
      · obtain rfl : k = n := by omega
        clear hlt hkn
        have HVV : Hid (fine V ∧ V.length < 40) := Lib.hid ⟨HPV.out.fine, by have := HPV.out.few; omega⟩
        go_upto_region 14 with fail
        go_cut [18] (fun v18 wx => ∃ fr : Bool, v18 = .bool fr ∧ Hid (∃ S dvs, Beg w s ys w.heap.size gv gm gd S V An cn Ad cd dvs fr wx))
        case first =>
          have q := HPV.out.bAt
          have b0 : wr.cell? ⟨w.heap.size, 0, none⟩ = some (.int .u32 s.o) := blk_cell (i := 0) q (Ext.refl _) rfl
          have b1 : wr.cell? ⟨w.heap.size, 1, none⟩ = some (.int .u16 s.st) := blk_cell (i := 1) q (Ext.refl _) rfl
          have b2 : wr.cell? ⟨w.heap.size, 2, none⟩ = some (.int .u16 s.sl) := blk_cell (i := 2) q (Ext.refl _) rfl
          have b3 : wr.cell? ⟨w.heap.size, 3, none⟩ = some (.int .u32 s.g) := blk_cell (i := 3) q (Ext.refl _) rfl
          clear q
          have hfew := HPV.out.few
          have hmc : V.length < (cellsOf V ++ List.replicate (40 - V.length) []).length := by rw [List.length_append, cellsOf_len, List.length_replicate]; omega
          obtain ⟨y, hy, hdk⟩ := HPV.out.dk
          have HDK := Lib.hid hdk
          have hrb := HB.out.ext HPV.out.ext
          have HRB := Lib.hid hrb
          clear hdk hrb
          by_cases hmem : s ∈ V.map (·.1)
          · have HM := Lib.hid hmem
            clear hmem
            go_wp2_with fail
            refine (Vault.begin_twice S gv gm gd (place V 0) 300 _ [] y s B m cb ys wr HPV.out.va HDK.out HS.out HRB.out (by omega) (by rw [place_fst]; exact HM.out)).mono ?_
            rintro e w6 ⟨rfl, he6⟩
            have HX6 := Lib.hid (HPV.out.ext_ he6 (Nat.le_refl _))
            have HR6 := Lib.hid (HPR.out.ext_ he6)
            have HD6 := Lib.hid (HDK.out.ext he6)
            clear he6
            go_wp2_with fail
            go_meet
            exact ⟨false, rfl, Lib.hid ⟨S, dvs, ⟨y, [], by omega, HD6.out, .inl ⟨rfl, rfl⟩⟩, HR6.out, HX6.out.nb, HX6.out.fresh, HX6.out.bAt, HX6.out.ext⟩⟩
          · have HM := Lib.hid hmem
            clear hmem
            go_wp2_with fail
            refine (Vault.begin_new S gv gm gd (place V 0) 300 _ [] y s B m cb ys wr HPV.out.va HDK.out HS.out HRB.out (by omega) (by rw [place_fst]; exact HM.out) (by omega) V.length hmc (fun j hj => place_snd.2 hj) (fun k => by have := place_snd.1 k; omega) (fun p hp => by have := place_lt hp; omega) (by rw [place_len]; omega) (by simp) HPV.out.ngv HPV.out.ngm).mono ?_
            rintro e w6 ⟨rfl, -, hd6, hc6⟩
            have HR6 := Lib.hid (HPR.out.put hc6)
            have hbl := Pack.lt_of_at HPV.out.bAt
            have HB6 := Lib.hid (hc6.at_ HPV.out.bAt (fun k => k.elim HPV.out.nb HPV.out.bgm))
            have HE6 := Lib.hid (HPV.out.ext.chg hc6 fun i hi => hi.elim (HPV.out.fresh i) fun hi => by rw [hi]; exact HPV.out.wgm)
            have HF6 := Lib.hid (Plus.fresh (w' := w6) HPV.out.fresh HPV.out.ext.size)
            have HD6 := Lib.hid hd6
            clear hd6 hc6
            go_wp2_with fail
            go_meet
            exact ⟨true, rfl, Lib.hid ⟨_, dvs, ⟨y, _, by omega, HD6.out, .inr ⟨rfl, rfl, HM.out⟩⟩, HR6.out, fun k => k.elim HPV.out.nb fun k => by omega, HF6.out, HB6.out, HE6.out⟩⟩
        case rest =>
          obtain ⟨fr, rfl, hbeg⟩ := hcut
          obtain ⟨S1, dvs1, hbeg⟩ := hbeg.out
          have HBG := Lib.hid hbeg
          clear hbeg HPV HPR
          obtain ⟨y, L, hy, hd7, hL⟩ := HBG.out.dk
          have HD7 := Lib.hid hd7
          have HLL := Lib.hid hL
          have hLn : L.length ≤ 1099511627776 := by rcases hL with ⟨_, rfl⟩ | ⟨_, rfl, _⟩ <;> simp
          clear hd7 hL
          go_wp2_with fail
          refine (Disk.crash_calls S1 gd 300 _ L y wc HD7.out keep bytes HK.out HY.out hLn).mono ?_
          rintro e w8 ⟨rfl, hd8, hc8⟩
          obtain ⟨V', T, hcra⟩ := HBG.out.crash keep bytes HVV.out.1 HVV.out.2 HS.out (fun z hz => wf_u8 (HB.out.wf z hz)) (by have := HB.out.len; omega) HLL.out hd8 hc8
          have HC8 := Lib.hid hcra
          clear hd8 hc8 hcra HBG HD7 HLL
          obtain ⟨S8, y8, hd8, hr8⟩ := HC8.out.dk
          have HD8 := Lib.hid hd8
          have HR8 := Lib.hid hr8
          have hfo := foundN_all (cells := cellsOf V' ++ T) rfl HC8.out.fine HC8.out.none
          have HFO := Lib.hid hfo
          clear hd8 hr8 hfo
          go_wp2_with fail
          refine (Vault.open_calls S8 gd 300 _ [] y8 w8 HD8.out (by simp)).mono ?_
          rintro e w9 ⟨gv1, gm1, rfl, he9, hv9, -⟩
          rw [HFO.out] at hv9
          have HD9 := Lib.hid (HD8.out.ext he9)
          have HV9 := Lib.hid hv9
          have HE9 := Lib.hid he9
          clear hv9 he9
          go_wp2_with fail
          refine (Vault.open_calls S8 gd 300 _ [] y8 w9 HD9.out (by simp)).mono ?_
          rintro e w10 ⟨gv2, gm2, rfl, he10, hv10, -⟩
          rw [HFO.out] at hv10
          have HX10 := Lib.hid (HE9.out.trans he10)
          have HD10 := Lib.hid (HD9.out.ext he10)
          have HV10 := Lib.hid (HV9.out.ext he10)
          have HW10 := Lib.hid hv10
          have HR10 := Lib.hid (HR8.out.ext_ HX10.out)
          have HC10 := Lib.hid (HC8.out.ext_ HX10.out)
          clear hv10 he10 HD8 HD9 HV9 HE9 HR8 HC8 HX10
          have hN : (place V' 0).length = V'.length := place_len V' 0
          go_wp2_with fail
          refine (Vault.vlen_calls gv1 gm1 gd _ w10 HV10.out).mono ?_
          rintro e w' ⟨rfl, rfl⟩
          rw [hN]
          go_wp2_with fail
          refine (Vault.vlen_calls gv2 gm2 gd _ w10 HW10.out).mono ?_
          rintro e w' ⟨rfl, rfl⟩
          rw [hN]
          clear hN
          go_wp2_with fail
          go_loopg [23, 24, 25] V.length (fun g i _ _ wr => ∃ j : Nat, j ≤ V.length ∧ g = V.length - j ∧ i = .int .i64 j ∧ Hid (Ext w10 wr))
          case atStart => exact ⟨0, Nat.zero_le _, rfl, rfl, Lib.hid (Ext.refl _)⟩
          case round =>
            obtain ⟨j, hj, rfl, rfl, HX⟩ := hrel
            by_cases hjl : j < V.length
            · obtain ⟨p, hp⟩ : ∃ p, V[j]? = some p := ⟨_, List.getElem?_eq_getElem hjl⟩
              have HPJ : Hid (V'[j]? = some p) := Lib.hid (by
                rcases HC10.out.which with h | ⟨_, h, _⟩
                · rw [h]
                  exact hp
                · rw [h, List.getElem?_append_left hjl]
                  exact hp)
              obtain ⟨D, dc, hdv, hrd⟩ := HR10.out.each j p hp
              have hfl : ∀ t v, (shC p.1)[t]? = some v → t < 4 → (V.flatMap fun p => shC p.1)[j * 4 + t]? = some v := fun t v hv ht => by rw [get_flat (fun p : Sh × List Int => shC p.1) 4 (fun _ => rfl) V j t p hp ht]; exact hv
              obtain ⟨adn, rfl, m0⟩ := own_cell HR10.out.names (hfl 0 _ rfl (by omega))
              obtain ⟨adn1, ea1, m1⟩ := own_cell HR10.out.names (hfl 1 _ rfl (by omega))
              cases ea1
              obtain ⟨adn2, ea2, m2⟩ := own_cell HR10.out.names (hfl 2 _ rfl (by omega))
              cases ea2
              obtain ⟨adn3, ea3, m3⟩ := own_cell HR10.out.names (hfl 3 _ rfl (by omega))
              cases ea3
              obtain ⟨add, rfl, md⟩ := own_cell HR10.out.datas hdv
              rw [← add_of_add] at m1 m2 m3
              rw [Nat.add_zero] at m0
              have t1 : w10.cell? ⟨(adn.add (j * 4)).block, (adn.add (j * 4)).off + 1, none⟩ = some (.int .u16 p.1.st) := m1
              have t2 : w10.cell? ⟨(adn.add (j * 4)).block, (adn.add (j * 4)).off + 2, none⟩ = some (.int .u16 p.1.sl) := m2
              have t3 : w10.cell? ⟨(adn.add (j * 4)).block, (adn.add (j * 4)).off + 3, none⟩ = some (.int .u32 p.1.g) := m3
              have M0 := Lib.hid m0
              have M1 := Lib.hid t1
              have M2 := Lib.hid t2
              have M3 := Lib.hid t3
              have MD := Lib.hid md
              have HRD := Lib.hid hrd
              clear m0 m1 m2 m3 t1 t2 t3 md hrd hdv hfl hp
              have HOK : Hid p.1.Ok := Lib.hid (HC10.out.fine.1 p (List.mem_of_getElem? HPJ.out)).1
              have n0 : wr.cell? (adn.add (j * 4)) = some (.int .u32 p.1.o) := HX.out.cell_ M0.out
              have n1 := HX.out.cell_ M1.out
              have n2 := HX.out.cell_ M2.out
              have n3 := HX.out.cell_ M3.out
              have hVl : (V.length : Int) ≤ 40 := by have := HVV.out.2; omega
              go_wp2_with fail
              refine (Vault.get_calls S8 gv1 gm1 gd (place V' 0) 300 _ [] y8 p.1 wr (HV10.out.ext HX.out) (HD10.out.ext HX.out) HOK.out (fun q hq => by have := place_lt hq; rw [List.length_append, cellsOf_len]; omega) (by simp)).mono ?_
              rintro e w11 ⟨he11, h11⟩
              obtain ⟨A7, c7, rfl, hn7⟩ := got_one HC10.out.fine HPJ.out h11
              have HX11 := Lib.hid (HX.out.trans he11)
              have hpl := (HC10.out.fine.1 p (List.mem_of_getElem? HPJ.out)).2
              have hr7 := hn7.rd (fun z hz => u8_wf (hpl.1 z hz).1 (hpl.1 z hz).2)
              have s1 : ∀ W, Ext w11.drew W → (convert 22 9 (.slice A7 p.2.length c7)).run Try.prog W = .ok (.string (strOfNums p.2)) W := fun W hW => run_string (P := Try.prog) 22 9 5 c7 Try.underlying22 Try.underlying5 Try.underlying9 (hr7.ext (drew_ext hW))
              have s2 : ∀ W, Ext w11.drew W → (convert 22 9 (.slice D p.2.length dc)).run Try.prog W = .ok (.string (strOfNums p.2)) W := fun W hW => run_string (P := Try.prog) 22 9 5 dc Try.underlying22 Try.underlying5 Try.underlying9 (HRD.out.ext (HC10.out.ext.trans (HX11.out.trans (drew_ext hW))))
              have r0 : ∀ W, Ext w11.drew W → W.cell? _ = some _ := fun W hW => (HX11.out.trans (drew_ext hW)).cell_ M0.out
              have r1 : ∀ W, Ext w11.drew W → W.cell? _ = some _ := fun W hW => (HX11.out.trans (drew_ext hW)).cell_ M1.out
              have r2 : ∀ W, Ext w11.drew W → W.cell? _ = some _ := fun W hW => (HX11.out.trans (drew_ext hW)).cell_ M2.out
              have r3 : ∀ W, Ext w11.drew W → W.cell? _ = some _ := fun W hW => (HX11.out.trans (drew_ext hW)).cell_ M3.out
              have rd : ∀ W, Ext w11.drew W → W.cell? _ = some _ := fun W hW => (HX11.out.trans (drew_ext hW)).cell_ MD.out
              clear he11 h11 hn7 hr7 hpl n0 n1 n2 n3
              go_upto_region 24 with fail
              refine Lex.wp_region_u [0, 1, 2, 3, 4, 5, 6, 7, 8, 9, 10, 11, 12, 13, 14, 15, 16, 17, 18, 19, 20, 21, 22, 23, 24, 25, 26] [] [(18, .const (.int .i64 j)), (24, .const (.int .i64 j))] (by kernel_rfl) (by kernel_rfl) (by repeat (first | exact Lex.st_nil | refine Lex.st_cons (by first | exact Lex.nums_st | exact Lex.const_st | exact Lex.such_st | exact Lex.row_st | exact Lex.rowE_st | exact Lex.litR_st | assumption) ?_)) ?_; simp only [Lex.pick, List.getElem?_cons_succ, List.getElem?_cons_zero, List.map_nil]
              repeat (first | (refine Lex.lexU_skip (by rfl) ?_; simp only [Act.put, List.setIfInBounds_toArray, List.set_cons_zero, List.set_cons_succ]) | (refine Lex.lexU_still (by rfl) (by rfl) (by first | exact Base.Ext.refl | exact Lex.Fill.refl) ?_; apply Exists.intro; refine ⟨fun W hW => ?_, ?_⟩; (have hE := Lex.ext_of_cls hW.1; have hE2 := Lex.ext_drew hE; clear hW; go_simp; try with_reducible rfl); simp only [Act.put, List.setIfInBounds_toArray, List.set_cons_zero, List.set_cons_succ]))
              refine Lex.lexU_loose (by rfl) (by rfl) (fun W hW => ?_) ?_
              · have hE := Lex.ext_drew (Lex.ext_of_cls hW.1)
                clear hW
                go_simp
                refine (Vault.cell_calls gv2 gm2 gd (place V' 0) p.1 _ (HW10.out.ext (HX11.out.trans hE)) HOK.out).mono ?_
                rintro e w12 ⟨he12, h12⟩
                exact ⟨_, cell_one HC10.out.fine HPJ.out h12, rfl, he12, trivial⟩
              rintro v rfl
              simp only [Act.put, List.setIfInBounds_toArray, List.set_cons_zero, List.set_cons_succ]
              repeat (first | (refine Lex.lexU_skip (by rfl) ?_; simp only [Act.put, List.setIfInBounds_toArray, List.set_cons_zero, List.set_cons_succ]) | (refine Lex.lexU_still (by rfl) (by rfl) (by first | exact Base.Ext.refl | exact Lex.Fill.refl) ?_; apply Exists.intro; refine ⟨fun W hW => ?_, ?_⟩; (have hE := Lex.ext_of_cls hW.1; have hE2 := Lex.ext_drew hE; clear hW; go_simp; try with_reducible rfl); simp only [Act.put, List.setIfInBounds_toArray, List.set_cons_zero, List.set_cons_succ]))
              refine Lex.lexU_loose (by rfl) (by rfl) (fun W hW => ?_) ?_
              · have hE := Lex.ext_drew (Lex.ext_of_cls hW.1)
                clear hW
                go_simp
                refine (Vault.cell_calls gv1 gm1 gd (place V' 0) p.1 _ (HV10.out.ext (HX11.out.trans hE)) HOK.out).mono ?_
                rintro e w12 ⟨he12, h12⟩
                exact ⟨_, cell_one HC10.out.fine HPJ.out h12, rfl, he12, trivial⟩
              rintro v rfl
              simp only [Act.put, List.setIfInBounds_toArray, List.set_cons_zero, List.set_cons_succ]
              repeat (first | (refine Lex.lexU_skip (by rfl) ?_; simp only [Act.put, List.setIfInBounds_toArray, List.set_cons_zero, List.set_cons_succ]) | (refine Lex.lexU_still (by rfl) (by rfl) (by first | exact Base.Ext.refl | exact Lex.Fill.refl) ?_; apply Exists.intro; refine ⟨fun W hW => ?_, ?_⟩; (have hE := Lex.ext_of_cls hW.1; have hE2 := Lex.ext_drew hE; clear hW; go_simp; try with_reducible rfl); simp only [Act.put, List.setIfInBounds_toArray, List.set_cons_zero, List.set_cons_succ]))
              refine Lex.lexU_nil (fun W hW => ?_)
              have hE := Lib.hid (HX11.out.trans (Lex.ext_drew hW.1))
              clear hW r0 r1 r2 r3 rd s1 s2
              refine Lex.onlyN_intro ?_
              go_wp2_with fail
              go_roundg (V.length - (j + 1))
              case measure => omega
              case rel => exact ⟨j + 1, by omega, rfl, by first | rfl | go_num, hE⟩
            · obtain rfl : j = V.length := by omega
              have HY10 := Lib.hid (HC10.out.ext.trans HX.out)
              have q := HX.out.at_ HC10.out.bAt
              have b0 : wr.cell? ⟨w.heap.size, 0, none⟩ = some (.int .u32 s.o) := blk_cell (i := 0) q (Ext.refl _) rfl
              have b1 : wr.cell? ⟨w.heap.size, 1, none⟩ = some (.int .u16 s.st) := blk_cell (i := 1) q (Ext.refl _) rfl
              have b2 : wr.cell? ⟨w.heap.size, 2, none⟩ = some (.int .u16 s.sl) := blk_cell (i := 2) q (Ext.refl _) rfl
              have b3 : wr.cell? ⟨w.heap.size, 3, none⟩ = some (.int .u32 s.g) := blk_cell (i := 3) q (Ext.refl _) rfl
              have HQ := Lib.hid q
              have hVl : V.length < 40 := HVV.out.2
              have hN : (place V' 0).length = V'.length := place_len V' 0
              have HN := Lib.hid hN
              clear q hN
              cases fr with
              | false =>
                have hVV : V' = V := HC10.out.which.elim id fun h => by cases h.1
                have HVE := Lib.hid (show V'.length = V.length by rw [hVV])
                clear hVV
                go_wp2_with fail
                refine (Vault.vlen_calls gv1 gm1 gd _ wr (HV10.out.ext HX.out)).mono ?_
                rintro e w' ⟨rfl, rfl⟩
                rw [HN.out, HVE.out]
                go_wp2_with fail
                refine (Vault.awake_calls _).mono ?_
                rintro e w12 ⟨rfl, he12⟩
                go_wp2_with fail
                go_ret
                exact ⟨rfl, HY10.out.trans he12⟩
              | true =>
                have HNEW := Lib.hid (HC10.out.new rfl)
                go_wp2_with fail
                refine (Vault.has_calls gv1 gm1 gd (place V' 0) s wr (HV10.out.ext HX.out) HS.out).mono ?_
                rintro e w12 ⟨rfl, he12⟩
                have HX12 := Lib.hid (HX.out.trans he12)
                have HY12 := Lib.hid (HY10.out.trans he12)
                have q := he12.at_ HQ.out
                clear he12 b0 b1 b2 b3
                rcases HC10.out.which with hw | ⟨_, hw, _⟩
                · have HVE := Lib.hid (show V'.length = V.length by rw [hw])
                  rw [show decide (s ∈ (place V' 0).map (·.1)) = false from decide_eq_false (by rw [place_fst, hw]; exact HNEW.out)]
                  clear hw q
                  go_wp2_with fail
                  refine (Vault.vlen_calls gv1 gm1 gd _ w12 (HV10.out.ext HX12.out)).mono ?_
                  rintro e w' ⟨rfl, rfl⟩
                  rw [HN.out, HVE.out]
                  go_wp2_with fail
                  refine (Vault.awake_calls _).mono ?_
                  rintro e w13 ⟨rfl, he13⟩
                  go_wp2_with fail
                  go_ret
                  exact ⟨rfl, HY12.out.trans he13⟩
                · have HVE := Lib.hid (show V'.length = V.length + 1 by rw [hw]; simp)
                  have HPS : Hid (V'[V.length]? = some (s, ys)) := Lib.hid (by rw [hw, List.getElem?_append_right (Nat.le_refl _), Nat.sub_self]; rfl)
                  rw [show decide (s ∈ (place V' 0).map (·.1)) = true from decide_eq_true (by rw [place_fst, hw]; simp)]
                  clear hw
                  have b0 : w12.cell? ⟨w.heap.size, 0, none⟩ = some (.int .u32 s.o) := blk_cell (i := 0) q (Ext.refl _) rfl
                  have b1 : w12.cell? ⟨w.heap.size, 1, none⟩ = some (.int .u16 s.st) := blk_cell (i := 1) q (Ext.refl _) rfl
                  have b2 : w12.cell? ⟨w.heap.size, 2, none⟩ = some (.int .u16 s.sl) := blk_cell (i := 2) q (Ext.refl _) rfl
                  have b3 : w12.cell? ⟨w.heap.size, 3, none⟩ = some (.int .u32 s.g) := blk_cell (i := 3) q (Ext.refl _) rfl
                  clear q
                  go_wp2_with fail
                  refine (Vault.get_calls S8 gv1 gm1 gd (place V' 0) 300 _ [] y8 s w12 (HV10.out.ext HX12.out) (HD10.out.ext HX12.out) HS.out (fun q hq => by have := place_lt hq; rw [List.length_append, cellsOf_len]; omega) (by simp)).mono ?_
                  rintro e w13 ⟨he13, h13⟩
                  obtain ⟨A7, c7, rfl, hn7⟩ := got_one (p := (s, ys)) HC10.out.fine HPS.out h13
                  have hr7 := hn7.rd (fun z hz => HB.out.wf z hz)
                  have HX13 := Lib.hid (HX12.out.trans he13)
                  have HY13 := Lib.hid (HY12.out.trans he13)
                  have hyl : ys.length = m := HB.out.len
                  have HR7 := Lib.hid (show Rd w13 .u8 A7 m ys by rw [← hyl]; exact hr7)
                  have HRB := Lib.hid (HB.out.ext HY13.out)
                  clear he13 h13 hn7 hr7 b0 b1 b2 b3
                  go_wp2_with fail
                  refine (Vault.vlen_calls gv1 gm1 gd _ w13 (HV10.out.ext HX13.out)).mono ?_
                  rintro e w' ⟨rfl, rfl⟩
                  rw [HN.out, HVE.out]
                  have s1 := run_string (P := Try.prog) 22 9 5 c7 Try.underlying22 Try.underlying5 Try.underlying9 HR7.out
                  have s2 := run_string (P := Try.prog) 22 9 5 cb Try.underlying22 Try.underlying5 Try.underlying9 HRB.out
                  have wl : IntKind.i64.wrap ((V.length : Int) + 1) = ((V.length + 1 : Nat) : Int) := by rw [IntWalk.i64_in _ (by omega)]; rfl
                  go_wp2_with fail
                  refine (Vault.awake_calls _).mono ?_
                  rintro e w14 ⟨rfl, he14⟩
                  go_wp2_with fail
                  go_ret
                  exact ⟨rfl, HY13.out.trans he14⟩
  · have HX := Lib.hid hgo
    have hgo2 : lt = false ∨ (lt = true ∧ (200 : Int) < m) := by
      cases lt
      · exact .inl rfl
      · exact .inr ⟨rfl, by have := HX.out; simp at this; omega⟩
    clear hgo
    rcases hgo2 with rfl | ⟨rfl, h200⟩
    all_goals
      go_wp2_with fail
      refine (Vault.awake_calls _).mono ?_
      rintro e w2 ⟨rfl, he2⟩
      go_wp2_with fail
      go_ret
      exact ⟨rfl, HE1.out.trans he2⟩
/-- The walk as the row asks for it: the shard by its fields. -/
theorem keeps_row (A : Option Addr) (n c : Nat) (l : List Act) (d : shF.T) (B : Option Addr) (m cb : Nat) (ys : List Int) (keep bytes : Int) (w : World) (hl : (Shape.Sh.sl actS).ok w (A, n, c, l)) (hd : shF.ok w d) (hb : Rd w .u8 B m ys) (hm : m * 1 ≤ 140737488351232)
    (hk : (Lit.int .i64 keep).wf = true) (hy : (Lit.int .i64 bytes).wf = true) :
    Calls Try.prog 9 #[.slice A n c, .agg (shF.cells d).toArray, .slice B m cb, .int .i64 keep, .int .i64 bytes] w fun e w' => e = .returned (.bool true) ∧ Ext w w' := by
  obtain ⟨o, st, sl, g, u⟩ := d
  obtain ⟨k0, k1, k2, k3, _⟩ : (Lit.int .u32 o).wf = true ∧ (Lit.int .u16 st).wf = true ∧ (Lit.int .u16 sl).wf = true ∧ (Lit.int .u32 g).wf = true ∧ True := hd
  have b0 := wf_u32 k0
  have b1 := wf_u16 k1
  have b2 := wf_u16 k2
  have b3 := wf_u32 k3
  exact walk A n c l ⟨o, st, sl, g⟩ B m cb ys keep bytes w hl ⟨b0.1, b0.2, b1.1, b1.2, b2.1, b2.2, b3.1, b3.2⟩ hb hm hk hy
end Go.Proofs.Ytfhgjopoohfhjaa.VaultW
