import Derived.Test.YtfhgjopoohfhjaaDiaryAwake
import Derived.Test.YtfhgjopoohfhjaaDiaryRef
namespace Go.Proofs.Ytfhgjopoohfhjaa.DiaryLies
open Go.RowKit Base Step Vec Diary
open DiaryP (records frame)
open DiaryRec (Rows2 info_b)
open DiaryRef (Reads)
/-- Rows that lie off S. -/
structure Lies (S : Nat → Prop) (w : World) (A : Option Addr) (n : Nat) (xs : List (List Int)) : Prop where
  len : xs.length = n
  room : n ≤ 9223372036854775807
  at_ : ∀ (i : Nat) (x : List Int), xs[i]? = some x → ∃ ad B m d, A = some ad ∧ w.cell? (ad.add i) = some (.slice B m d) ∧ m ≤ d ∧ Rd w .u8 B m x ∧ ¬ S ad.block ∧ Off S B m
theorem Lies.reads {S : Nat → Prop} {w : World} {A : Option Addr} {n : Nat} {xs : List (List Int)} (h : Lies S w A n xs) : Reads w A n xs :=
  ⟨h.len, h.room, fun i x hx => by
    obtain ⟨ad, B, m, d, h1, h2, _, h3, _⟩ := h.at_ i x hx
    exact ⟨ad, B, m, d, h1, h2, h3⟩⟩
theorem Lies.step {S S' : Nat → Prop} {w w' : World} {A : Option Addr} {n : Nat} {xs : List (List Int)} (h : Lies S w A n xs) (hs : Step S S' w w') : Lies S' w' A n xs :=
  ⟨h.len, h.room, fun i x hx => by
    obtain ⟨ad, B, m, d, h1, h2, h3, h4, h5, h6⟩ := h.at_ i x hx
    have hlt := World.block_lt_of_cell? w _ h2
    rw [block_add] at hlt
    exact ⟨ad, B, m, d, h1, hs.chg.cell h2 (by rw [block_add]; exact h5), h3, rd_step h4 h6 hs, hs.not h5 hlt, h6.step h4 hs⟩⟩
theorem Lies.ext {S : Nat → Prop} {w w' : World} {A : Option Addr} {n : Nat} {xs : List (List Int)} (h : Lies S w A n xs) (he : Ext w w') : Lies S w' A n xs :=
  ⟨h.len, h.room, fun i x hx => by
    obtain ⟨ad, B, m, d, h1, h2, h3, h4, h5, h6⟩ := h.at_ i x hx
    exact ⟨ad, B, m, d, h1, he.cell_ h2, h3, h4.ext he, h5, h6⟩⟩
theorem Lies.mono {S S' : Nat → Prop} {w : World} {A : Option Addr} {n : Nat} {xs : List (List Int)} (h : Lies S w A n xs) (hs : ∀ i, S' i → S i) : Lies S' w A n xs :=
  ⟨h.len, h.room, fun i x hx => by
    obtain ⟨ad, B, m, d, h1, h2, h3, h4, h5, h6⟩ := h.at_ i x hx
    exact ⟨ad, B, m, d, h1, h2, h3, h4, fun k => h5 (hs _ k), fun h0 a ha k => h6 h0 a ha (hs _ k)⟩⟩
theorem Lies.take {S : Nat → Prop} {w : World} {A : Option Addr} {n : Nat} {xs : List (List Int)} (h : Lies S w A n xs) {k : Nat} (hk : k ≤ n) : Lies S w A k (xs.take k) :=
  ⟨by rw [List.length_take, h.len]; omega, by have := h.room; omega, fun i x hx => h.at_ i x (by
    have hi := (List.getElem?_eq_some_iff.1 hx).1
    rw [List.length_take] at hi
    rwa [List.getElem?_take_of_lt (by omega)] at hx)⟩
set_option maxRecDepth 100000 in
set_option maxHeartbeats 2000000 in
theorem drecords_calls (S : Nat → Prop) (g gt : Nat) (xs : List (List Int)) (n : Nat) (w : World) (h : Diary.Diary w S g gt xs n) (hl : xs.length ≤ 999) (hx : ∀ x ∈ xs, x.length ≤ 1099511627776) :
    Calls Try.prog 26 #[.pointer (some ⟨g, 0, none⟩)] w fun e w' => Ext w w' ∧ ∃ A c, e = .returned (.slice A xs.length c) ∧ Rows2 w' (fun i => w.heap.size ≤ i) A xs.length c xs := by
  go_enter Try.func26, Try.ntmps26
  go_wp2_with fail
  refine (len_calls S g gt xs n _ h).mono ?_
  rintro e w1 ⟨rfl, he1⟩
  have h1 := h.ext he1
  have hsz1 := he1.size
  have HX1 := Lib.hid he1
  clear h he1
  go_wp2_with fail
  go_loopw [3, 6] (fun o i wr => ∃ (k : Nat) (A : Option Addr) (c : Nat), o = .slice A k c ∧ i = .int .i64 ((k : Int) + 1) ∧ k ≤ xs.length ∧ Ext w1 wr ∧ Rows2 wr (fun i => w1.heap.size ≤ i) A k c (xs.take k)) (fun _ i _ => xs.length + 1 - (intOf i).toNat)
  case atStart => exact ⟨0, none, 0, rfl, rfl, Nat.zero_le _, Ext.refl _, ⟨[], Own.nil _ _ _ _, Each.nil _⟩⟩
  case round =>
    obtain ⟨k, A, c, rfl, rfl, hk, hx1, hrows⟩ := hrel
    by_cases hlt : k < xs.length
    · obtain ⟨x, hxk⟩ : ∃ x, xs[k]? = some x := ⟨_, List.getElem?_eq_getElem hlt⟩
      have hxl := hx x (List.mem_of_getElem? hxk)
      have HG := Lib.hid (get_calls S g gt xs n wr (h1.ext hx1) k x hxk hxl)
      have HT : Hid (xs.take (k + 1) = xs.take k ++ [x]) := Lib.hid (by
        have hq := List.getElem?_eq_some_iff.1 hxk
        rw [List.take_succ_eq_append_getElem hq.1, hq.2])
      have i1 : (k : Int) + 1 ≤ xs.length := by omega
      have i2 : (k : Int) + 1 < 1000 := by omega
      clear hxk
      go_wp2_with fail
      refine HG.out.mono ?_
      rintro e w4 ⟨he4, A4, c4, rfl, ho4, hwf4⟩
      have hE := he4.trans (Ext.new w4 (.cells #[.slice A4 x.length c4] 22))
      obtain ⟨vs, ho, hrep⟩ := hrows
      have hown := ho.extNew hE
      have hvs : ∀ (j : Nat) u, [Value.slice A4 x.length c4][j]? = some u → (w4.alloc (.cells #[.slice A4 x.length c4] 22)).cell? ⟨w4.heap.size, j, none⟩ = some u := fun j u hu => blk_cell (at_new w4 _) (Ext.refl _) (by simpa using hu)
      have hsz := hE.size
      have hszx := hx1.size
      have hb4 := ((Bytes.new ho4 hwf4).ext (Ext.new w4 (.cells #[.slice A4 x.length c4] 22)))
      clear he4
      go_wp2_with (at_builtin; refine wpList_appE _ rfl _ _ _ rfl (fun i => w1.heap.size ≤ i) 22 _ 1 24 Try.underlying25 info_b rfl (by decide) (by decide) (.slice A k c) k vs rfl hown w4.heap.size 1 [.slice A4 x.length c4] rfl rfl hvs (by simp [Value.oneCell']) ?c2 (fun i hi => by omega) ?_)
      case c2 => omega
      intro A5 c5 w5 ho5 hc5
      have hx5 : Ext w1 w5 := (hx1.trans hE).chg hc5 fun i hi => ho.foot i hi
      have hr5 : Rows2 w5 (fun i => w1.heap.size ≤ i) A5 (k + 1) c5 (xs.take (k + 1)) := by
        rw [HT.out]
        exact ⟨_, ho5, (hrep.imp fun _ _ b => (b.ext hE).kind hc5 (own_kinds hown (by decide))).snoc ((hb4.kind hc5 (own_kinds hown (by decide))).mono fun i _ hi => by omega)⟩
      clear ho hrep hown hvs hb4 ho4 ho5 hc5 hE hx1
      go_wp2_with fail
      go_roundw
      case rel => exact ⟨k + 1, _, _, rfl, by go_num, by omega, hx5, hr5⟩
      case measure => simp [intOf]; omega
    · obtain rfl : k = xs.length := by omega
      rw [List.take_length] at hrows
      have HX := Lib.hid (HX1.out.trans hx1)
      clear hx1 h1
      go_wp2_with fail
      go_ret
      exact ⟨HX.out, A, c, rfl, hrows.mono fun i _ hi => Nat.le_trans hsz1 hi⟩
end Go.Proofs.Ytfhgjopoohfhjaa.DiaryLies
