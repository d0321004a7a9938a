import Derived.Test.YtfhgjopoohfhjaaDiaryRec
import Derived.Test.YtfhgjopoohfhjaaTape
import Derived.Test.YtfhgjopoohfhjaaOrd
namespace Go.Proofs.Ytfhgjopoohfhjaa.Diary
open Go.RowKit Base Step Vec
open DiaryP (records frame)
open DiaryRec (Rows2 info_b)

structure DiaryIs (w : World) (S : Nat → Prop) (g gt : Nat) (A : Option Addr) (m c n : Nat) (xs : List (List Int)) : Prop where
  at_ : w.heap[g]? = some (.cells #[.pointer (some ⟨gt, 0, none⟩), .slice A m c, .int .i64 n] 183 (0, 0))
  rows : Rows2 w S A m c xs
  foot : S g
  lt : ∀ i, S i → i < w.heap.size
  n : n ≤ m
/-- A diary at block g over the tape at block gt, all of it (but the tape) in blocks of S: its records, and how many are safe. -/
def Diary (w : World) (S : Nat → Prop) (g gt : Nat) (xs : List (List Int)) (n : Nat) : Prop := ∃ A m c, DiaryIs w S g gt A m c n xs
theorem Rows2.chg {w w' : World} {S S2 : Nat → Prop} {A : Option Addr} {m c : Nat} {xs : List (List Int)} (h : Rows2 w S A m c xs) (hc : Chg S2 w w') (hd : ∀ i, S i → ¬ S2 i) : Rows2 w' S A m c xs := by
  obtain ⟨vs, h1, h2⟩ := h
  exact ⟨vs, h1.chg hc hd, h2.imp fun _ _ k => k.chg hc hd⟩
theorem Rows2.put {w : World} {S : Nat → Prop} {A : Option Addr} {m c : Nat} {xs : List (List Int)} (h : Rows2 w S A m c xs) {g i : Nat} {cs : Array Value} {f : Nat × Nat} (hb : w.heap[g]? = some (.cells cs 183 f)) (u : Value) : Rows2 (w.setCell ⟨g, i, none⟩ u) S A m c xs := by
  obtain ⟨vs, h1, h2⟩ := h
  exact ⟨vs, own_put h1 hb (by decide), h2.imp fun _ _ k => k.put hb (by decide) _⟩
theorem own_room {w : World} {S : Nat → Prop} {e : TypeId} {size n : Nat} {v : Value} {xs : List Value} (h : Own w S e size v n xs) : n ≤ 9223372036854775807 := by
  rcases h.row.2 with ⟨_, h1⟩ | ⟨g', cap', cur, he, _, _, h1, h2, _⟩
  · omega
  · simp only [maxLen] at h2
    omega
section
variable {w w' : World} {S S2 : Nat → Prop} {g gt : Nat} {A : Option Addr} {m c n : Nat} {xs : List (List Int)}
theorem DiaryIs.ext (h : DiaryIs w S g gt A m c n xs) (he : Ext w w') : DiaryIs w' S g gt A m c n xs := ⟨he.at_ h.at_, h.rows.ext he, h.foot, fun i hi => he.lt (h.lt i hi), h.n⟩
theorem DiaryIs.chg (h : DiaryIs w S g gt A m c n xs) (hc : Chg S2 w w') (hd : ∀ i, S i → ¬ S2 i) : DiaryIs w' S g gt A m c n xs := ⟨hc.at_ h.at_ (hd _ h.foot), Rows2.chg h.rows hc hd, h.foot, fun i hi => Nat.lt_of_lt_of_le (h.lt i hi) hc.size, h.n⟩
theorem Diary.ext (h : Diary w S g gt xs n) (he : Ext w w') : Diary w' S g gt xs n := by
  obtain ⟨A, m, c, h⟩ := h
  exact ⟨A, m, c, h.ext he⟩
theorem Diary.chg (h : Diary w S g gt xs n) (hc : Chg S2 w w') (hd : ∀ i, S i → ¬ S2 i) : Diary w' S g gt xs n := by
  obtain ⟨A, m, c, h⟩ := h
  exact ⟨A, m, c, h.chg hc hd⟩
theorem Diary.lt (h : Diary w S g gt xs n) : ∀ i, S i → i < w.heap.size := by
  obtain ⟨A, m, c, h⟩ := h
  exact h.lt
theorem Diary.n_le (h : Diary w S g gt xs n) : n ≤ xs.length := by
  obtain ⟨A, m, c, h⟩ := h
  rw [h.rows.len]
  exact h.n
theorem DiaryIs.flds (h : DiaryIs w S g gt A m c n xs) : (∀ W, Ext w W → W.cell? ⟨g, 0, none⟩ = some (.pointer (some ⟨gt, 0, none⟩))) ∧ (∀ W, Ext w W → W.cell? ⟨g, 1, none⟩ = some (.slice A m c)) ∧ (∀ W, Ext w W → W.cell? ⟨g, 2, none⟩ = some (.int .i64 n)) :=
  ⟨fun _ he => blk_cell h.at_ he rfl, fun _ he => blk_cell h.at_ he rfl, fun _ he => blk_cell h.at_ he rfl⟩
end
/-- A tape, and a diary over it. -/
structure Both (w : World) (St Sd : Nat → Prop) (gt g : Nat) (bs : List Int) (safe : Nat) (most : Int) (xs : List (List Int)) (n : Nat) : Prop where
  t : Tape.Tape w St gt bs safe most
  d : Diary w Sd g gt xs n
  sep : ∀ i, St i → ¬ Sd i
theorem Both.ext {w w' : World} {St Sd : Nat → Prop} {gt g : Nat} {bs : List Int} {safe : Nat} {most : Int} {xs : List (List Int)} {n : Nat} (h : Both w St Sd gt g bs safe most xs n) (he : Ext w w') : Both w' St Sd gt g bs safe most xs n := ⟨h.t.ext he, h.d.ext he, h.sep⟩
/-- What a call on both writes, and where both lie behind it. -/
def Or2 (S T : Nat → Prop) : Nat → Prop := fun i => S i ∨ T i

set_option maxRecDepth 100000 in
set_option maxHeartbeats 1000000 in
theorem open_calls (S : Nat → Prop) (gt : Nat) (bs : List Int) (safe : Nat) (most : Int) (w : World) (h : Tape.Tape w S gt bs safe most) (hx : bs.length ≤ 1099511627776) :
    Calls Try.prog 22 #[.pointer (some ⟨gt, 0, none⟩)] w fun e w' => ∃ (g : Nat) (S' Sd : Nat → Prop), e = .returned (.tuple #[.pointer (some ⟨g, 0, none⟩), .int .i64 0]) ∧ Both w' S' Sd gt g (bs.take (records bs).2.toNat) (records bs).2.toNat most (records bs).1 (records bs).1.length ∧ Chg S w w' ∧ (∀ i, S' i → S i ∨ w.heap.size ≤ i) ∧ (∀ i, Sd i → w.heap.size ≤ i) := by
  have hwf := h.wf
  have hru := DiaryP.records_used (xs := bs) fun x hx => wf_u8 (hwf x hx)
  obtain ⟨u, hu⟩ := Int.eq_ofNat_of_zero_le hru.1
  have HT := Lib.hid h
  have HL := Lib.hid h.lt
  go_enter Try.func22, Try.ntmps22
  go_wp2_with fail
  refine (Tape.read_calls S gt bs safe most _ h hx).mono ?_
  rintro e w1 ⟨he1, A1, c1, rfl, ho1⟩
  go_wp2_with fail
  refine (DiaryRec.records_calls A1 bs.length c1 bs _ (ho1.rd hwf) ho1.cap.1 ho1.cap.2 hx).mono ?_
  rintro e w2 ⟨he2, A2, m, c2, rfl, hr2⟩
  have he12 := he1.trans he2
  have hsz12 := he12.size
  have hsz1 := he1.size
  have hml := hr2.len
  have HU := Lib.hid hu
  have hul : u ≤ bs.length := by omega
  rw [hu]
  clear hu hru
  go_wp2_with fail
  refine (Tape.cut_calls S gt bs safe most u _ (h.ext he12) hul hx).mono ?_
  rintro e w3 ⟨rfl, S3, ht3, hst3⟩
  have hsz3 := hst3.size
  have hr3 : Rows2 w3 (fun i => w1.heap.size ≤ i ∧ i < w2.heap.size) A2 m c2 (records bs).1 := Rows2.chg (hr2.mono fun i hlt hi => ⟨hi, hlt⟩) hst3.chg fun i hi hS => by
    have := HL.out i hS
    omega
  have hlt3 := ht3.lt
  go_wp2_with fail
  go_ret2
  have hnew := Ext.new w3 (.cells #[.pointer (some ⟨gt, 0, none⟩), .slice A2 m c2, .int .i64 m] 183)
  have hln : (records bs).1.length = m := hml
  rw [HU.out, hln]
  refine ⟨w3.heap.size, S3, fun i => (w1.heap.size ≤ i ∧ i < w2.heap.size) ∨ i = w3.heap.size, rfl, ⟨ht3.ext hnew, ⟨A2, m, c2, at_new _ _, (hr3.ext hnew).mono fun i _ hi => .inl hi, .inr rfl, fun i hi => by simp; omega, Nat.le_refl _⟩, fun i hi hd => ?_⟩, (chg_ext (ext_chg he12 hst3.chg) hnew), fun i hi => (hst3.grow i hi).imp id fun h2 => by omega, fun i hi => by omega⟩
  have h1 := hlt3 i hi
  rcases hd with hd | hd
  · rcases hst3.grow i hi with h2 | h2
    · have := HL.out i h2
      omega
    · omega
  · omega
set_option maxRecDepth 100000 in
theorem len_calls (S : Nat → Prop) (g gt : Nat) (xs : List (List Int)) (n : Nat) (w : World) (h : Diary w S g gt xs n) :
    Calls Try.prog 41 #[.pointer (some ⟨g, 0, none⟩)] w fun e w' => e = .returned (.tuple #[.int .i64 xs.length, .int .i64 n]) ∧ Ext w w' := by
  obtain ⟨A, m, c, h⟩ := h
  obtain rfl := h.rows.len
  obtain ⟨_, d0, d1⟩ := h.flds
  replace d0 : ∀ W, Ext w.drew W → W.cell? ⟨g, 1, none⟩ = some (.slice A xs.length c) := fun W hW => d0 W (drew_ext hW)
  replace d1 : ∀ W, Ext w.drew W → W.cell? ⟨g, 2, none⟩ = some (.int .i64 n) := fun W hW => d1 W (drew_ext hW)
  go_enter Try.func41, Try.ntmps41
  go_wp2_with fail
  refine Lex.wp_region_ext [] (by kernel_rfl) (by kernel_rfl) (by repeat (first | exact Lex.st_nil | refine Lex.st_cons (by first | exact Lex.nums_st | exact Lex.const_st | exact Lex.such_st | exact Lex.row_st | exact Lex.rowE_st | exact Lex.litR_st | assumption) ?_)) ?_
  repeat (first | (refine Lex.lex_skip (by rfl) ?_; simp only [Act.put, List.setIfInBounds_toArray, List.set_cons_zero, List.set_cons_succ]) | (refine Lex.lex_still (by rfl) (by rfl) ?_; apply Exists.intro; refine ⟨fun W hW => ?_, ?_⟩; (have hE := hW.1; have hE2 := Base.Ext.trans (Base.Ext.drew (Base.Ext.refl _)) hW.1; clear hW; go_simp; try with_reducible rfl); simp only [Act.put, List.setIfInBounds_toArray, List.set_cons_zero, List.set_cons_succ]))
  refine Lex.lex_nil (fun W hW => ?_)
  have hE := drew_ext hW.1
  clear hW
  go_wp2_with fail
  go_ret2
  exact ⟨rfl, hE⟩
theorem or2_l {S T : Nat → Prop} {w w' : World} (h : Chg S w w') : Chg (Or2 S T) w w' := h.mono fun _ _ hi => .inl hi
theorem or2_r {S T : Nat → Prop} {w w' : World} (h : Chg T w w') : Chg (Or2 S T) w w' := h.mono fun _ _ hi => .inr hi
theorem Rows2.take {w : World} {S : Nat → Prop} {A : Option Addr} {m c : Nat} {xs : List (List Int)} (h : Rows2 w S A m c xs) {k : Nat} (hk : k ≤ m) : Rows2 w S A k c (xs.take k) := by
  obtain ⟨vs, h1, h2⟩ := h
  have := own_takeG h1 hk
  rw [Nat.mul_one] at this
  exact ⟨_, this, h2.take k⟩
set_option maxRecDepth 100000 in
set_option maxHeartbeats 1000000 in
theorem sync_calls (St Sd : Nat → Prop) (gt g : Nat) (bs : List Int) (safe : Nat) (most : Int) (xs : List (List Int)) (n : Nat) (w : World) (h : Both w St Sd gt g bs safe most xs n) :
    Calls Try.prog 23 #[.pointer (some ⟨g, 0, none⟩)] w fun e w' => e = .returned (.int .i64 0) ∧ Both w' St Sd gt g bs bs.length most xs xs.length ∧ Chg (Or2 St Sd) w w' := by
  obtain ⟨ht, ⟨A, m, c, hd⟩, hs⟩ := h
  obtain rfl := hd.rows.len
  obtain ⟨d0, d1, d2⟩ := hd.flds
  have q0 := d0 _ (Ext.refl w)
  have q1 := d1 _ (Ext.refl w)
  have q2 := d2 _ (Ext.refl w)
  have f2 := blk_free hd.at_ (Ext.refl w) 2
  have hd3 : DiaryIs (w.setCell ⟨g, 2, none⟩ (.int .i64 xs.length)) Sd g gt A xs.length c xs.length xs := ⟨set_blk hd.at_ _, Rows2.put hd.rows hd.at_ _, hd.foot, fun i hi => by simpa using hd.lt i hi, Nat.le_refl _⟩
  have hc3 : Chg Sd w (w.setCell ⟨g, 2, none⟩ (.int .i64 xs.length)) := Chg.setCell (Chg.refl _ _) (p := ⟨g, 2, none⟩) hd.foot _
  have ht3 := ht.chg hc3 hs
  have q3 := hd3.flds.1 _ (Ext.refl _)
  clear d0 d1 d2
  go_enter Try.func23, Try.ntmps23
  go_wp2_with fail
  refine (Tape.sync_calls St gt bs safe most _ ht3).mono ?_
  rintro e w4 ⟨rfl, ht4, hst4⟩
  have hd4 := hd3.chg hst4.chg fun i hi h2 => hs i h2 hi
  go_wp2_with fail
  go_ret
  exact ⟨rfl, ⟨ht4, ⟨A, _, c, hd4⟩, hs⟩, (or2_r hc3).trans (or2_l hst4.chg)⟩
set_option maxRecDepth 100000 in
set_option maxHeartbeats 1000000 in
theorem back_calls (St Sd : Nat → Prop) (gt g : Nat) (bs : List Int) (safe : Nat) (most : Int) (xs : List (List Int)) (n : Nat) (w : World) (h : Both w St Sd gt g bs safe most xs n) :
    Calls Try.prog 36 #[.pointer (some ⟨g, 0, none⟩)] w fun e w' => e = .returned (.int .i64 ((xs.length : Int) - n)) ∧ Both w' St Sd gt g (bs.take safe) safe most (xs.take n) n ∧ Chg (Or2 St Sd) w w' := by
  obtain ⟨ht, ⟨A, m, c, hd⟩, hs⟩ := h
  obtain rfl := hd.rows.len
  obtain ⟨vs0, ho0, _⟩ := id hd.rows
  have hcap := ho0.cap.1
  have hroom := own_room ho0
  have hnl := hd.n
  obtain ⟨d0, d1, d2⟩ := hd.flds
  have q0 := d0 _ (Ext.refl w)
  replace d1 : ∀ W, Ext w.drew W → W.cell? ⟨g, 1, none⟩ = some (.slice A xs.length c) := fun W hW => d1 W (drew_ext hW)
  replace d2 : ∀ W, Ext w.drew W → W.cell? ⟨g, 2, none⟩ = some (.int .i64 n) := fun W hW => d2 W (drew_ext hW)
  have w1 : IntKind.i64.wrap ((xs.length : Int) - n) = xs.length - n := IntWalk.i64_in _ (by omega)
  clear ho0
  go_enter Try.func36, Try.ntmps36
  go_wp2_with fail
  refine Lex.wp_region_ext [] (by kernel_rfl) (by kernel_rfl) (by repeat (first | exact Lex.st_nil | refine Lex.st_cons (by first | exact Lex.nums_st | exact Lex.const_st | exact Lex.such_st | exact Lex.row_st | exact Lex.rowE_st | exact Lex.litR_st | assumption) ?_)) ?_
  repeat (first | (refine Lex.lex_skip (by rfl) ?_; simp only [Act.put, List.setIfInBounds_toArray, List.set_cons_zero, List.set_cons_succ]) | (refine Lex.lex_still (by rfl) (by rfl) ?_; apply Exists.intro; refine ⟨fun W hW => ?_, ?_⟩; (have hE := hW.1; have hE2 := Base.Ext.trans (Base.Ext.drew (Base.Ext.refl _)) hW.1; clear hW; go_simp; try with_reducible rfl); simp only [Act.put, List.setIfInBounds_toArray, List.set_cons_zero, List.set_cons_succ]))
  refine Lex.lex_nil (fun W hW => ?_)
  have hE := drew_ext hW.1
  clear hW d0 d1 d2 q0 w1
  replace hd := hd.ext hE
  replace ht := ht.ext hE
  have q0 := hd.flds.1 _ (Ext.refl _)
  go_wp2_with fail
  refine (Tape.back_calls St gt bs safe most _ ht).mono ?_
  rintro e w4 ⟨rfl, ht4, hst4⟩
  have hd4 := hd.chg hst4.chg fun i hi h2 => hs i h2 hi
  obtain ⟨_, d1, d2⟩ := hd4.flds
  replace d1 : ∀ W, Ext w4.drew W → W.cell? ⟨g, 1, none⟩ = some (.slice A xs.length c) := fun W hW => d1 W (drew_ext hW)
  replace d2 : ∀ W, Ext w4.drew W → W.cell? ⟨g, 2, none⟩ = some (.int .i64 n) := fun W hW => d2 W (drew_ext hW)
  have i0 : (0 : Int) ≤ n := by omega
  have i1 : (n : Int) ≤ xs.length := by omega
  have i2 : (n : Int) ≤ c := by omega
  have i3 : (xs.length : Int) ≤ c := by omega
  generalize (bs.length : Int) - safe = lost
  go_wp2_with fail
  refine Lex.wp_region_tail 12 [] (by kernel_rfl) (by kernel_rfl) (by repeat (first | exact Lex.st_nil | refine Lex.st_cons (by first | exact Lex.nums_st | exact Lex.const_st | exact Lex.such_st | exact Lex.row_st | exact Lex.rowE_st | exact Lex.litR_st | assumption) ?_)) ?_; simp only [List.take_succ_cons, List.take_zero, List.drop_succ_cons, List.drop_zero]
  repeat (first | (refine Lex.lexT_skip (by rfl) ?_; simp only [Act.put, List.setIfInBounds_toArray, List.set_cons_zero, List.set_cons_succ]) | (refine Lex.lexT_still (by rfl) (by rfl) ?_; apply Exists.intro; refine ⟨fun W hW => ?_, ?_⟩; (have hE := hW.1; have hE2 := Base.Ext.trans (Base.Ext.drew (Base.Ext.refl _)) hW.1; clear hW; go_simp; try with_reducible rfl); simp only [Act.put, List.setIfInBounds_toArray, List.set_cons_zero, List.set_cons_succ]))
  refine Lex.lexT_nil (fun W hW => ?_)
  have hE2 := drew_ext hW.1
  have hd5 := hd4.ext hE2
  have ht5 := ht4.ext hE2
  have q1 := hd5.flds.2.1 _ (Ext.refl _)
  have f1 := blk_free hd5.at_ (Ext.refl _) 1
  have hd6 : DiaryIs (W.setCell ⟨g, 1, none⟩ (.slice A n c)) Sd g gt A n c n (xs.take n) := ⟨set_blk hd5.at_ _, Rows2.put (Rows2.take hd5.rows hnl) hd5.at_ _, hd5.foot, fun i hi => by simpa using hd5.lt i hi, Nat.le_refl _⟩
  have hc6 : Chg Sd W (W.setCell ⟨g, 1, none⟩ (.slice A n c)) := Chg.setCell (Chg.refl _ _) (p := ⟨g, 1, none⟩) hd.foot _
  have ht6 := ht5.chg hc6 hs
  have hch := (ext_chg hE (or2_l (T := Sd) hst4.chg)).trans (ext_chg hE2 (or2_r (S := St) hc6))
  clear hW d1 d2
  go_wp2_with fail
  go_ret
  exact ⟨rfl, ⟨ht6, ⟨A, _, c, hd6⟩, hs⟩, hch⟩
theorem frame_wf {num : Int} {ys : List Int} (h : ∀ x ∈ ys, (Lit.int .u8 x).wf = true) : ∀ x ∈ frame num ys, (Lit.int .u8 x).wf = true := fun x hx => by
  have := Frm.frame_u8 2 (Le.le 8 num ++ ys) (fun y hy => (List.mem_append.1 hy).elim (Le.le_u8 8 num y) fun h2 => wf_u8 (h y h2)) x hx
  exact u8_wf this.1 this.2
set_option maxRecDepth 100000 in
set_option maxHeartbeats 2000000 in
theorem write_calls (St Sd : Nat → Prop) (gt g : Nat) (bs : List Int) (safe : Nat) (most : Int) (xs : List (List Int)) (n : Nat) (w : World) (h : Both w St Sd gt g bs safe most xs n) (B : Option Addr) (m d : Nat) (ys : List Int) (hr : Rd w .u8 B m ys) (hoff : Off St B m)
    (hm : m ≤ 60000) (hb : bs.length ≤ 1099511627776) (hx : xs.length ≤ 1099511627776) (hfit : (bs.length : Int) + (20 + m : Nat) ≤ most) :
    Calls Try.prog 24 #[.pointer (some ⟨g, 0, none⟩), .slice B m d] w fun e w' => e = .returned (.int .i64 0) ∧ ∃ St' Sd', Both w' St' Sd' gt g (bs ++ frame ((xs.length : Int) + 1) ys) safe most (xs ++ [ys]) n ∧ Step (Or2 St Sd) (Or2 St' Sd') w w' := by
  obtain ⟨ht, ⟨A, k, c, hd⟩, hs⟩ := h
  obtain rfl := hd.rows.len
  obtain rfl := hr.len
  obtain ⟨d0, d1, d2⟩ := hd.flds
  have q0 := d0 _ (Ext.refl w)
  replace d0 : ∀ W, Ext w.drew W → W.cell? ⟨g, 0, none⟩ = some (.pointer (some ⟨gt, 0, none⟩)) := fun W hW => d0 W (drew_ext hW)
  replace d1 : ∀ W, Ext w.drew W → W.cell? ⟨g, 1, none⟩ = some (.slice A xs.length c) := fun W hW => d1 W (drew_ext hW)
  have c1 : IntKind.u64.wrap (xs.length : Int) = xs.length := wrap_u64 (by omega) (by omega)
  have c2 : IntKind.u64.wrap ((xs.length : Int) + 1) = xs.length + 1 := wrap_u64 (by omega) (by omega)
  have HF := Lib.hid fun W (hr : Rd W .u8 B ys.length ys) => DiaryRec.frame_calls ((xs.length : Int) + 1) B ys.length d ys W hr hm (by omega) (by omega)
  have HW := Lib.hid (frame_wf (num := (xs.length : Int) + 1) hr.wf)
  have HFIT := Lib.hid hfit
  have HFL := Lib.hid (DiaryP.frame_length ((xs.length : Int) + 1) ys)
  clear d2 hfit
  go_enter Try.func24, Try.ntmps24
  go_wp2_with fail
  refine Lex.wp_region_tail 13 [(12, .row w 5 .u8 (20 + ys.length) (frame ((xs.length : Int) + 1) ys))] (by kernel_rfl) (by kernel_rfl) (by repeat (first | exact Lex.st_nil | refine Lex.st_cons (by first | exact Lex.nums_st | exact Lex.const_st | exact Lex.such_st | exact Lex.row_st | exact Lex.rowE_st | exact Lex.litR_st | assumption) ?_)) ?_; simp only [List.take_succ_cons, List.take_zero, List.drop_succ_cons, List.drop_zero]
  repeat (first | (refine Lex.lexT_skip (by rfl) ?_; simp only [Act.put, List.setIfInBounds_toArray, List.set_cons_zero, List.set_cons_succ]) | (refine Lex.lexT_still (by rfl) (by rfl) ?_; apply Exists.intro; refine ⟨fun W hW => ?_, ?_⟩; (have hE := hW.1; have hE2 := Base.Ext.trans (Base.Ext.drew (Base.Ext.refl _)) hW.1; clear hW; go_simp; try with_reducible rfl); simp only [Act.put, List.setIfInBounds_toArray, List.set_cons_zero, List.set_cons_succ]))
  refine Lex.lexT_loose (by rfl) (by rfl) (fun W hW => ?_) ?_
  · have hE := drew_ext hW.1
    go_simp
    refine (HF.out _ (hr.ext hE)).mono ?_
    rintro e w10 ⟨A10, c10, rfl, ho10, he10⟩
    exact ⟨_, rfl, ⟨A10, c10, rfl, ho10.cap.1⟩, he10, Lex.row_mk (ho10.mono fun i _ hi => Nat.le_trans hE.size hi)⟩
  rintro v ⟨A5, c5, rfl, -⟩
  simp only [Act.put, List.setIfInBounds_toArray, List.set_cons_zero, List.set_cons_succ]
  repeat (first | (refine Lex.lexT_skip (by rfl) ?_; simp only [Act.put, List.setIfInBounds_toArray, List.set_cons_zero, List.set_cons_succ]) | (refine Lex.lexT_still (by rfl) (by rfl) ?_; apply Exists.intro; refine ⟨fun W hW => ?_, ?_⟩; (have hE := hW.1; have hE2 := Base.Ext.trans (Base.Ext.drew (Base.Ext.refl _)) hW.1; clear hW; go_simp; try with_reducible rfl); simp only [Act.put, List.setIfInBounds_toArray, List.set_cons_zero, List.set_cons_succ]))
  refine Lex.lexT_nil (fun W hW => ?_)
  have hE := drew_ext hW.1
  have ho5 := Lex.upd_here (hW.2 12) _ _ rfl
  have hr5 := ho5.rd HW.out
  have hszE := hE.size
  obtain ⟨fr, hfr⟩ : ∃ fr, frame ((xs.length : Int) + 1) ys = fr := ⟨_, rfl⟩
  rw [hfr] at ho5 hr5
  have HFR := Lib.hid hfr
  clear hfr
  clear hW d0 d1 c1 c2 q0
  go_wp2_with fail
  refine (Tape.append_calls St gt bs safe most A5 (20 + ys.length) c5 fr _ (ht.ext hE) hr5 hb (by omega) HFIT.out).mono ?_
  rintro e w4 ⟨rfl, S4, ht4, hst4⟩
  have hd4 := (hd.ext hE).chg hst4.chg fun i hi h2 => hs i h2 hi
  have hr4 : Rd w4 .u8 B ys.length ys := (hr.ext hE).chg hst4.chg fun ad ha h0 => hoff h0 ad ha
  have hsz4 := hst4.size
  have hlt4 := ht4.lt
  have d1 : ∀ W, Ext w4.drew W → W.cell? ⟨g, 1, none⟩ = some (.slice A xs.length c) := fun W hW => hd4.flds.2.1 W (drew_ext hW)
  clear ho5 hr5 HF
  go_wp2_with fail
  refine Lex.wp_region_ord [0] [1, 2, 3, 4, 5, 6, 7] [8, 9, 10, 11] [(6, .row w4 5 .u8 ys.length ys), (7, .litR [] w4 5 .u8 ys.length ys [])] (by kernel_rfl) (by kernel_rfl) (by repeat (first | exact Lex.st_nil | refine Lex.st_cons (by first | exact Lex.nums_st | exact Lex.const_st | exact Lex.such_st | exact Lex.row_st | exact Lex.rowE_st | exact Lex.litR_st) ?_)) ?_; simp only [Lex.pick, List.getElem?_cons_succ, List.getElem?_cons_zero, List.map_cons, List.map_nil]; repeat (refine Lex.preL_cons (by rfl) ?_; apply Exists.intro; refine ⟨fun W => ?_, ?_⟩; (go_simp; try with_reducible rfl); simp only [Act.put, List.setIfInBounds_toArray, List.set_cons_zero, List.set_cons_succ]); refine Lex.preL_nil ?_
  repeat (first | (refine Lex.lexH_skip (by rfl) ?_; simp only [Act.put, List.setIfInBounds_toArray, List.set_cons_zero, List.set_cons_succ]) | (refine Lex.lexH_still (by rfl) (by rfl) ?_; apply Exists.intro; refine ⟨fun W hW => ?_, ?_⟩; (have hE := hW.1; have hE2 := Base.Ext.trans (Base.Ext.drew (Base.Ext.refl _)) hW.1; clear hW; go_simp; try with_reducible rfl); simp only [Act.put, List.setIfInBounds_toArray, List.set_cons_zero, List.set_cons_succ]))
  refine Lex.lexH_loose (by rfl) (by rfl) (fun W hW => ?_) ?_
  · have hE2 := drew_ext hW.1
    go_simp
    refine (clone8 B ys.length d ys _ (hr4.ext hE2) (by omega)).mono ?_
    rintro e w10 ⟨he10, A10, c10, rfl, ho10⟩
    exact ⟨_, rfl, ⟨A10, c10, rfl, ho10.cap.1⟩, he10, Lex.row_mk (ho10.mono fun i _ hi => Nat.le_trans hE2.size hi)⟩
  rintro v ⟨A6, c6, rfl, -⟩
  simp only [Act.put, List.setIfInBounds_toArray, List.set_cons_zero, List.set_cons_succ]
  repeat (first | (refine Lex.lexH_skip (by rfl) ?_; simp only [Act.put, List.setIfInBounds_toArray, List.set_cons_zero, List.set_cons_succ]) | (refine Lex.lexH_still (by rfl) (by rfl) ?_; apply Exists.intro; refine ⟨fun W hW => ?_, ?_⟩; (have hE := hW.1; have hE2 := Base.Ext.trans (Base.Ext.drew (Base.Ext.refl _)) hW.1; clear hW; go_simp; try with_reducible rfl); simp only [Act.put, List.setIfInBounds_toArray, List.set_cons_zero, List.set_cons_succ]))
  refine Lex.lexH_loose (by rfl) (by rfl) (fun W hW => ?_) ?_
  · go_simp
    exact ⟨⟨_, rfl⟩, Ext.new _ _, Lex.lit_mk (vs := [.slice A6 ys.length c6]) ⟨A6, c6, rfl, (Lex.upd_here (hW.2 6 (by kernel_rfl)) _ _ rfl).extNew (Ext.new _ _)⟩⟩
  rintro v ⟨g6, rfl⟩
  simp only [Act.put, List.setIfInBounds_toArray, List.set_cons_zero, List.set_cons_succ]
  repeat (first | (refine Lex.lexH_skip (by rfl) ?_; simp only [Act.put, List.setIfInBounds_toArray, List.set_cons_zero, List.set_cons_succ]) | (refine Lex.lexH_still (by rfl) (by rfl) ?_; apply Exists.intro; refine ⟨fun W hW => ?_, ?_⟩; (have hE := hW.1; have hE2 := Base.Ext.trans (Base.Ext.drew (Base.Ext.refl _)) hW.1; clear hW; go_simp; try with_reducible rfl); simp only [Act.put, List.setIfInBounds_toArray, List.set_cons_zero, List.set_cons_succ]))
  refine Lex.lexH_nil (fun W hW => ?_)
  have hE6 := drew_ext hW.1
  obtain ⟨vs, ⟨A7, c7, rfl, ho7⟩, hvs⟩ := Lex.upd_here (hW.2 7) _ rfl
  have hd6 := hd4.ext hE6
  have hsz6 := hE6.size
  obtain ⟨ws, how, hrep⟩ := hd6.rows
  clear hW d1
  go_wp2_with (at_builtin; refine wpList_appE _ rfl _ _ _ rfl (fun i => Sd i ∨ w4.heap.size ≤ i) 22 _ 1 24 Try.underlying25 info_b rfl (by decide) (by decide) (.slice A xs.length c) _ ws rfl (how.mono fun i _ hi => .inl hi) g6 1 [.slice A7 ys.length c7] rfl rfl hvs (by simp [Value.oneCell']) ?c2 (fun i hi => .inr (Nat.le_trans hsz6 hi)) ?_)
  case c2 => omega
  intro A9 c9 w9 ho9 hc9
  have hsz9 := hc9.size
  have hat9 := hc9.at_ hd6.at_ (how.ne hd6.at_ (by decide))
  have hb7 : Bytes 5 w9 (Plus Sd w4 w9) (.slice A7 ys.length c7) ys := ((Bytes.new ho7 hr.wf).kind hc9 (own_kinds how (by decide))).mono fun i hlt hi => .inr ⟨hi, hlt⟩
  have hrows9 : Rows2 w9 (Plus Sd w4 w9) A9 (xs.length + 1) c9 (xs ++ [ys]) :=
    ⟨_, ho9.mono fun i hlt hi => hi.imp id fun h => ⟨h, hlt⟩, (hrep.imp fun _ _ b => (b.kind hc9 (own_kinds how (by decide))).mono fun i _ => .inl).snoc hb7⟩
  have hn := hd6.n
  have hd9 : DiaryIs (w9.setCell ⟨g, 1, none⟩ (.slice A9 (xs.length + 1) c9)) (Plus Sd w4 w9) g gt A9 (xs.length + 1) c9 n (xs ++ [ys]) :=
    ⟨set_blk hat9 _, Rows2.put hrows9 hat9 _, .inl hd.foot, fun i hi => by simpa using Plus.lt hd4.lt (by omega) i hi, by omega⟩
  have hq9 := blk_cell (i := 1) hat9 (Ext.refl _) rfl
  have hf9 := blk_free hat9 (Ext.refl _) 1
  have hsep4 : ∀ i, Sd i → ¬ S4 i := fun i hi h4 => (hst4.grow i h4).elim (fun h5 => hs i h5 hi) fun h5 => by have := hd.lt i hi; omega
  have hc9' : Chg Sd w4 (w9.setCell ⟨g, 1, none⟩ (.slice A9 (xs.length + 1) c9)) := (ext_chg hE6 (hc9.mono fun i _ hi => how.foot i hi)).setCell (p := ⟨g, 1, none⟩) hd.foot _
  have ht9 := ht4.chg hc9' fun i hi h2 => hsep4 i h2 hi
  have hsep9 : ∀ i, S4 i → ¬ Plus Sd w4 w9 i := fun i hi hp => hp.elim (fun h2 => hsep4 i h2 hi) fun h2 => by have := hlt4 i hi; omega
  have hch : Chg (Or2 St Sd) w (w9.setCell ⟨g, 1, none⟩ (.slice A9 (xs.length + 1) c9)) := (ext_chg hE (or2_l hst4.chg)).trans (or2_r hc9')
  have hgr : ∀ i, Or2 S4 (Plus Sd w4 w9) i → Or2 St Sd i ∨ w.heap.size ≤ i := fun i hi => by
    rcases hi with hi | hi | hi
    · exact (hst4.grow i hi).imp .inl fun h => by omega
    · exact .inl (.inr hi)
    · exact .inr (by omega)
  clear ho9 hc9 hrep how ho7 hvs hb7 hrows9 hd6 hd4 hst4
  go_wp2_with fail
  simp only [Lex.onlyN]
  go_wp2_with fail
  go_ret
  exact ⟨rfl, S4, _, ⟨by rw [HFR.out]; exact ht9, ⟨_, _, _, hd9⟩, hsep9⟩, hch, hgr⟩
set_option maxRecDepth 100000 in
set_option maxHeartbeats 2000000 in
theorem write_full (St Sd : Nat → Prop) (gt g : Nat) (bs : List Int) (safe : Nat) (most : Int) (xs : List (List Int)) (n : Nat) (w : World) (h : Both w St Sd gt g bs safe most xs n) (B : Option Addr) (m d : Nat) (ys : List Int) (hr : Rd w .u8 B m ys)
    (hm : m ≤ 60000) (hx : xs.length ≤ 1099511627776) (hfit : most < (bs.length : Int) + (20 + m : Nat)) :
    Calls Try.prog 24 #[.pointer (some ⟨g, 0, none⟩), .slice B m d] w fun e w' => e = .returned (.int .i64 20) ∧ Ext w w' := by
  obtain ⟨ht, ⟨A, k, c, hd⟩, hs⟩ := h
  obtain rfl := hd.rows.len
  obtain rfl := hr.len
  obtain ⟨d0, d1, d2⟩ := hd.flds
  have q0 := d0 _ (Ext.refl w)
  replace d0 : ∀ W, Ext w.drew W → W.cell? ⟨g, 0, none⟩ = some (.pointer (some ⟨gt, 0, none⟩)) := fun W hW => d0 W (drew_ext hW)
  replace d1 : ∀ W, Ext w.drew W → W.cell? ⟨g, 1, none⟩ = some (.slice A xs.length c) := fun W hW => d1 W (drew_ext hW)
  have c1 : IntKind.u64.wrap (xs.length : Int) = xs.length := wrap_u64 (by omega) (by omega)
  have c2 : IntKind.u64.wrap ((xs.length : Int) + 1) = xs.length + 1 := wrap_u64 (by omega) (by omega)
  have HF := Lib.hid fun W (hr : Rd W .u8 B ys.length ys) => DiaryRec.frame_calls ((xs.length : Int) + 1) B ys.length d ys W hr hm (by omega) (by omega)
  have HFIT := Lib.hid hfit
  clear d2 hfit
  go_enter Try.func24, Try.ntmps24
  go_wp2_with fail
  refine Lex.wp_region_tail 13 [(12, .row w 5 .u8 (20 + ys.length) (frame ((xs.length : Int) + 1) ys))] (by kernel_rfl) (by kernel_rfl) (by repeat (first | exact Lex.st_nil | refine Lex.st_cons (by first | exact Lex.nums_st | exact Lex.const_st | exact Lex.such_st | exact Lex.row_st | exact Lex.rowE_st | exact Lex.litR_st | assumption) ?_)) ?_; simp only [List.take_succ_cons, List.take_zero, List.drop_succ_cons, List.drop_zero]
  repeat (first | (refine Lex.lexT_skip (by rfl) ?_; simp only [Act.put, List.setIfInBounds_toArray, List.set_cons_zero, List.set_cons_succ]) | (refine Lex.lexT_still (by rfl) (by rfl) ?_; apply Exists.intro; refine ⟨fun W hW => ?_, ?_⟩; (have hE := hW.1; have hE2 := Base.Ext.trans (Base.Ext.drew (Base.Ext.refl _)) hW.1; clear hW; go_simp; try with_reducible rfl); simp only [Act.put, List.setIfInBounds_toArray, List.set_cons_zero, List.set_cons_succ]))
  refine Lex.lexT_loose (by rfl) (by rfl) (fun W hW => ?_) ?_
  · have hE := drew_ext hW.1
    go_simp
    refine (HF.out _ (hr.ext hE)).mono ?_
    rintro e w10 ⟨A10, c10, rfl, ho10, he10⟩
    exact ⟨_, rfl, ⟨A10, c10, rfl, ho10.cap.1⟩, he10, Lex.row_mk (ho10.mono fun i _ hi => Nat.le_trans hE.size hi)⟩
  rintro v ⟨A5, c5, rfl, -⟩
  simp only [Act.put, List.setIfInBounds_toArray, List.set_cons_zero, List.set_cons_succ]
  repeat (first | (refine Lex.lexT_skip (by rfl) ?_; simp only [Act.put, List.setIfInBounds_toArray, List.set_cons_zero, List.set_cons_succ]) | (refine Lex.lexT_still (by rfl) (by rfl) ?_; apply Exists.intro; refine ⟨fun W hW => ?_, ?_⟩; (have hE := hW.1; have hE2 := Base.Ext.trans (Base.Ext.drew (Base.Ext.refl _)) hW.1; clear hW; go_simp; try with_reducible rfl); simp only [Act.put, List.setIfInBounds_toArray, List.set_cons_zero, List.set_cons_succ]))
  refine Lex.lexT_nil (fun W hW => ?_)
  have hE := drew_ext hW.1
  clear hW d0 d1 c1 c2 q0
  go_wp2_with fail
  refine (Tape.append_full St gt bs safe most A5 (20 + ys.length) c5 _ (ht.ext hE) (by omega) HFIT.out).mono ?_
  rintro e w4 ⟨rfl, he4⟩
  go_wp2_with fail
  go_ret
  exact ⟨rfl, hE.trans he4⟩
set_option maxRecDepth 100000 in
set_option maxHeartbeats 1000000 in
theorem get_calls (S : Nat → Prop) (g gt : Nat) (xs : List (List Int)) (n : Nat) (w : World) (h : Diary w S g gt xs n) (k : Nat) (x : List Int) (hk : xs[k]? = some x) (hx : x.length ≤ 1099511627776) :
    Calls Try.prog 43 #[.pointer (some ⟨g, 0, none⟩), .int .i64 ((k : Int) + 1)] w fun e w' => Ext w w' ∧ ∃ A' c', e = .returned (.tuple #[.slice A' x.length c', .bool true]) ∧ New w w' 5 1 A' x.length c' (nums .u8 x) ∧ ∀ y ∈ x, (Lit.int .u8 y).wf = true := by
  obtain ⟨A, m, c, h⟩ := h
  obtain rfl := h.rows.len
  have hkl := (List.getElem?_eq_some_iff.1 hk).1
  obtain ⟨vs, ho, hrep⟩ := h.rows
  have hroom := own_room ho
  obtain ⟨v, hv, hb⟩ := hrep.at_ hk
  obtain ⟨B, l, d, rfl, _⟩ := id hb
  obtain ⟨ad, rfl, hc⟩ := own_cell ho hv
  have hr := hb.rd
  obtain rfl := hr.len
  have q1 := h.flds.2.1 _ (Ext.refl w)
  have hi : (k : Int) + 1 - 1 = k := by omega
  have h0 : (0 : Int) ≤ k := by omega
  have h1 : (k : Int) < xs.length := by omega
  clear hv hk
  go_enter Try.func43, Try.ntmps43
  go_wp2_with fail
  refine (clone8 B x.length d x _ hr (by omega)).mono ?_
  rintro e w1 ⟨he1, A1, c1, rfl, ho1⟩
  go_wp2_with fail
  go_ret2
  exact ⟨he1, A1, c1, rfl, ho1, hr.wf⟩
set_option maxRecDepth 100000 in
theorem get_no (S : Nat → Prop) (g gt : Nat) (xs : List (List Int)) (n : Nat) (w : World) (h : Diary w S g gt xs n) (k : Int) (hk : k < 1 ∨ (xs.length : Int) < k) :
    Calls Try.prog 43 #[.pointer (some ⟨g, 0, none⟩), .int .i64 k] w fun e w' => e = .returned (.tuple #[.slice none 0 0, .bool false]) ∧ w = w' := by
  obtain ⟨A, m, c, h⟩ := h
  obtain rfl := h.rows.len
  have q1 := h.flds.2.1 _ (Ext.refl w)
  have hk : k < 1 ∨ (1 ≤ k ∧ (xs.length : Int) < k) := by omega
  rcases hk with hk | ⟨hk0, hk⟩
  all_goals
    go_enter Try.func43, Try.ntmps43
    go_wp2_with fail
    go_ret2
    exact ⟨rfl, rfl⟩
end Go.Proofs.Ytfhgjopoohfhjaa.Diary
