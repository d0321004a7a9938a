import Derived.Test.YtfhgjopoohfhjaaDiaryRec
namespace Go.Proofs.Ytfhgjopoohfhjaa.DiaryRef
open Go.RowKit Base Step Vec
open Scan (Row Items)
open DiaryP (okAt recs outs records frame)
open DiaryRec (Rows2 item_at info_b dec_t dec_f)
/-- Rows that lie elsewhere, listed in a row of the call's own. -/
def RowsR (Z : Nat → Prop) (w0 w : World) (A : Option Addr) (n c : Nat) (xs : List (List Int)) : Prop := ∃ vs, New w0 w 22 1 A n c vs ∧ Each (fun v x => ∃ B m d, v = .slice B m d ∧ m ≤ d ∧ Rd w .u8 B m x ∧ Apt w0 22 w B m ∧ (0 < m → ∀ ad, B = some ad → Z ad.block)) vs xs
theorem RowsR.ext {Z : Nat → Prop} {w0 w w' : World} {A : Option Addr} {n c : Nat} {xs : List (List Int)} (h : RowsR Z w0 w A n c xs) (he : Ext w w') : RowsR Z w0 w' A n c xs := by
  obtain ⟨vs, h1, h2⟩ := h
  exact ⟨vs, h1.extNew he, h2.imp fun _ _ ⟨B, m, d, h3, h4, h5, h6, h7⟩ => ⟨B, m, d, h3, h4, h5.ext he, h6.ext he, h7⟩⟩
/-- A slice of rows reads so. -/
structure Reads (w : World) (A : Option Addr) (n : Nat) (xs : List (List Int)) : Prop where
  len : xs.length = n
  room : n ≤ 9223372036854775807
  at_ : ∀ (i : Nat) (x : List Int), xs[i]? = some x → ∃ ad B m d, A = some ad ∧ w.cell? (ad.add i) = some (.slice B m d) ∧ Rd w .u8 B m x
theorem Reads.ext {w w' : World} {A : Option Addr} {n : Nat} {xs : List (List Int)} (h : Reads w A n xs) (he : Ext w w') : Reads w' A n xs :=
  ⟨h.len, h.room, fun i x hx => by
    obtain ⟨ad, B, m, d, h1, h2, h3⟩ := h.at_ i x hx
    exact ⟨ad, B, m, d, h1, he.cell_ h2, h3.ext he⟩⟩
theorem own_room {w : World} {S : Nat → Prop} {e : TypeId} {size n : Nat} {v : Value} {xs : List Value} (h : Own w S e size v n xs) : n ≤ 9223372036854775807 := by
  rcases h.row.2 with ⟨_, h1⟩ | ⟨g', cap', cur, he, _, _, h1, h2, _⟩
  · omega
  · simp only [maxLen] at h2
    omega
theorem _root_.Go.Proofs.Ytfhgjopoohfhjaa.DiaryRec.Rows2.reads {w : World} {S : Nat → Prop} {A : Option Addr} {n c : Nat} {xs : List (List Int)} (h : Rows2 w S A n c xs) : Reads w A n xs := by
  have hl := h.len
  obtain ⟨vs, h1, h2⟩ := h
  refine ⟨hl, own_room h1, fun i x hx => ?_⟩
  obtain ⟨v, hv, hb⟩ := h2.at_ hx
  obtain ⟨B, m, d, rfl, _⟩ := id hb
  obtain ⟨ad, hA, hc⟩ := own_cell h1 hv
  exact ⟨ad, B, m, d, hA, hc, hb.rd⟩
theorem RowsR.reads {Z : Nat → Prop} {w0 w : World} {A : Option Addr} {n c : Nat} {xs : List (List Int)} (h : RowsR Z w0 w A n c xs) : Reads w A n xs := by
  obtain ⟨vs, h1, h2⟩ := h
  have hl := h2.len
  have hl1 := h1.row.1
  refine ⟨by omega, own_room h1, fun i x hx => ?_⟩
  obtain ⟨v, hv, B, m, d, rfl, _, hr, _, _⟩ := h2.at_ hx
  obtain ⟨ad, hA, hc⟩ := own_cell h1 hv
  exact ⟨ad, B, m, d, hA, hc, hr⟩
set_option maxRecDepth 100000 in
set_option maxHeartbeats 1000000 in
theorem same_calls (A : Option Addr) (n c : Nat) (B : Option Addr) (d : Nat) (xs : List (List Int)) (w : World) (ha : Reads w A n xs) (hb : Reads w B n xs) :
    Calls Try.prog 18 #[.slice A n c, .slice B n d] w fun e w' => e = .returned (.bool true) ∧ Ext w w' := by
  have hl := ha.len
  have hn := ha.room
  go_enter Try.func18, Try.ntmps18
  go_wp2_with fail
  go_loopw [5] (fun i wr => ∃ k : Nat, i = .int .i64 k ∧ k ≤ n ∧ Ext w wr) (fun i _ => n - (intOf i).toNat)
  case atStart => exact ⟨0, rfl, Nat.zero_le _, Ext.refl _⟩
  case round =>
    obtain ⟨k, rfl, hk, he⟩ := hrel
    by_cases hlt : k < n
    · obtain ⟨x, hx⟩ : ∃ x, xs[k]? = some x := ⟨_, List.getElem?_eq_getElem (by omega)⟩
      obtain ⟨a, A1, m1, d1, rfl, x1, r1⟩ := (ha.ext he).at_ k x hx
      obtain ⟨b, B1, m2, d2, rfl, x2, r2⟩ := (hb.ext he).at_ k x hx
      have e1 : ∀ W, Ext wr.drew W → W.cell? (a.add k) = some (.slice A1 m1 d1) := fun W hW => (drew_ext hW).cell_ x1
      have e2 : ∀ W, Ext wr.drew W → W.cell? (b.add k) = some (.slice B1 m2 d2) := fun W hW => (drew_ext hW).cell_ x2
      clear hx x1 x2
      go_wp2_with fail
      refine Lex.wp_region_ext [] (by kernel_rfl) (by kernel_rfl) (by repeat (first | exact Lex.st_nil | refine Lex.st_cons (by first | exact Lex.nums_st | exact Lex.const_st | exact Lex.such_st | exact Lex.row_st | exact Lex.rowE_st | exact Lex.litR_st | assumption) ?_)) ?_
      repeat (first | (refine Lex.lex_skip (by rfl) ?_; simp only [Act.put, List.setIfInBounds_toArray, List.set_cons_zero, List.set_cons_succ]) | (refine Lex.lex_still (by rfl) (by rfl) ?_; apply Exists.intro; refine ⟨fun W hW => ?_, ?_⟩; (have hE := hW.1; have hE2 := Base.Ext.trans (Base.Ext.drew (Base.Ext.refl _)) hW.1; clear hW; go_simp; try with_reducible rfl); simp only [Act.put, List.setIfInBounds_toArray, List.set_cons_zero, List.set_cons_succ]))
      refine Lex.lex_still (by rfl) (by rfl) ?_; apply Exists.intro; refine ⟨fun W hW => ?_, ?_⟩
      · have q := run_string (P := Try.prog) 22 9 5 d1 Try.underlying22 Try.underlying5 Try.underlying9 (r1.ext (drew_ext hW.1))
        go_simp
        try with_reducible rfl
      simp only [Act.put, List.setIfInBounds_toArray, List.set_cons_zero, List.set_cons_succ]
      repeat (first | (refine Lex.lex_skip (by rfl) ?_; simp only [Act.put, List.setIfInBounds_toArray, List.set_cons_zero, List.set_cons_succ]) | (refine Lex.lex_still (by rfl) (by rfl) ?_; apply Exists.intro; refine ⟨fun W hW => ?_, ?_⟩; (have hE := hW.1; have hE2 := Base.Ext.trans (Base.Ext.drew (Base.Ext.refl _)) hW.1; clear hW; go_simp; try with_reducible rfl); simp only [Act.put, List.setIfInBounds_toArray, List.set_cons_zero, List.set_cons_succ]))
      refine Lex.lex_still (by rfl) (by rfl) ?_; apply Exists.intro; refine ⟨fun W hW => ?_, ?_⟩
      · have q := run_string (P := Try.prog) 22 9 5 d2 Try.underlying22 Try.underlying5 Try.underlying9 (r2.ext (drew_ext hW.1))
        go_simp
        try with_reducible rfl
      simp only [Act.put, List.setIfInBounds_toArray, List.set_cons_zero, List.set_cons_succ]
      repeat (first | (refine Lex.lex_skip (by rfl) ?_; simp only [Act.put, List.setIfInBounds_toArray, List.set_cons_zero, List.set_cons_succ]) | (refine Lex.lex_still (by rfl) (by rfl) ?_; apply Exists.intro; refine ⟨fun W hW => ?_, ?_⟩; (have hE := hW.1; have hE2 := Base.Ext.trans (Base.Ext.drew (Base.Ext.refl _)) hW.1; clear hW; go_simp; try with_reducible rfl); simp only [Act.put, List.setIfInBounds_toArray, List.set_cons_zero, List.set_cons_succ]))
      refine Lex.lex_nil (fun W hW => ?_)
      have hX := he.trans (drew_ext hW.1)
      clear hW e1 e2
      go_wp2_with fail
      go_roundw
      case rel => exact ⟨k + 1, by go_num, by omega, hX⟩
      case measure => simp [intOf]; omega
    · obtain rfl : k = n := by omega
      go_wp2_with fail
      go_ret
      exact ⟨rfl, he⟩
set_option maxRecDepth 100000 in
set_option maxHeartbeats 1000000 in
theorem rframe_calls (num : Int) (B : Option Addr) (m d : Nat) (ys : List Int) (w : World) (hr : Rd w .u8 B m ys) (hm : m ≤ 60000) (h0 : 0 ≤ num) (h1 : num < 18446744073709551616) :
    Calls Try.prog 20 #[.int .u64 num, .slice B m d] w fun e w' => ∃ A' c', e = .returned (.slice A' (20 + m) c') ∧ New w w' 5 1 A' (20 + m) c' (nums .u8 (frame num ys)) ∧ Ext w w' := by
  obtain rfl := hr.len
  go_enter Try.func20, Try.ntmps20
  go_wp2_with fail
  refine (Ref01.num_calls num 8 _ (by omega) (by omega) h0 h1).mono ?_
  rintro e w1 ⟨A1, c1, rfl, ho1, hb1⟩
  have h8 : (8 : Int).toNat = 8 := rfl
  rw [h8] at ho1 ⊢
  clear h8
  go_wp2_with (at_builtin; refine wpList_more w _ rfl _ _ _ rfl 5 .u8 1 Try.underlying22 Pack.info_u8 (by decide) _ 8 (Le.le 8 num) rfl ho1 hb1 B ys.length d ys rfl (hr.ext hb1) ?c2 ?_)
  case c2 => omega
  intro A2 c2 w2 ho2 he2
  have hwf : ∀ x ∈ Le.le 8 num ++ ys, (Lit.int .u8 x).wf = true := wf_append (fun x hx => by have := Le.le_u8 8 num x hx; exact u8_wf this.1 this.2) hr.wf
  have hr2 := ho2.rd hwf
  clear ho1 ho2 hb1
  go_wp2_with fail
  refine (Ref10.frame_calls 2 A2 (8 + ys.length) c2 (Le.le 8 num ++ ys) _ (by omega) (by omega) hr2 (by omega)).mono ?_
  rintro e w4 ⟨A4, c4, rfl, ho4, hb4⟩
  go_wp2_with fail
  go_ret
  refine ⟨A4, c4, by rw [show 12 + (8 + ys.length) = 20 + ys.length by omega]; rfl, ?_, he2.trans hb4⟩
  rw [show 12 + (8 + ys.length) = 20 + ys.length by omega] at ho4
  exact ho4.mono fun i _ hi => Nat.le_trans he2.size hi
set_option maxRecDepth 100000 in
set_option maxHeartbeats 4000000 in
theorem rrecords_calls (A : Option Addr) (n c : Nat) (xs : List Int) (w : World) (hr : Rd w .u8 A n xs) (hc : n ≤ c) (hn : n ≤ 1099511627776) :
    Calls Try.prog 17 #[.slice A n c] w fun e w' => Ext w w' ∧ ∃ A' m c', e = .returned (.tuple #[.slice A' m c', .int .i64 (records xs).2]) ∧ RowsR (fun i => ∃ b, A = some b ∧ b.block = i) w w' A' m c' (records xs).1 := by
  have HL := Lib.hid hr.len
  have HU : Hid (Le.U8s xs) := Lib.hid fun x hx => wf_u8 (hr.wf x hx)
  go_enter Try.func17, Try.ntmps17
  go_wp2_with fail
  refine (Scan.rscan_at A n c xs _ hr hc hn).mono ?_
  rintro e w1 ⟨he1, A1, c1, rows, rfl, hi1, hrows⟩
  have HREC : Hid (records xs = recs (Frm.scan n 0 xs) 0 (Frm.used n 0 xs)) := Lib.hid (by unfold records; rw [HL.out])
  have hln := DiaryP.scan_count n 0 xs
  have HLE := Lib.hid (DiaryP.scan_len n 0 xs)
  generalize Frm.scan n 0 xs = l at *
  generalize Frm.used n 0 xs = u at *
  have hsz1 := he1.size
  have HR := Lib.hid hrows
  have HX1 := Lib.hid he1
  clear hrows hr hc he1
  go_wp2_with fail
  go_loopw [4, 7] (fun o i wr => ∃ (k : Nat) (A' : Option Addr) (c' : Nat), o = .slice A' k c' ∧ i = .int .i64 k ∧ k ≤ l.length ∧ Ext w1 wr ∧ RowsR (fun i => ∃ b, A = some b ∧ b.block = i) w wr A' k c' (outs (l.take k)) ∧ (∀ i, (Value.slice A' k c').ownBlock = some i → w1.heap.size ≤ i) ∧ recs l 0 u = (outs (l.take k) ++ (recs (l.drop k) k u).1, (recs (l.drop k) k u).2)) (fun _ i _ => l.length - (intOf i).toNat)
  case atStart => exact ⟨0, none, 0, rfl, rfl, Nat.zero_le _, Ext.refl _, ⟨[], Own.nil _ _ _ _, Each.nil _⟩, by simp [Value.ownBlock], by simp [outs]⟩
  case round =>
    obtain ⟨k, A', c', rfl, rfl, hk, hx, hrows, hfoot, hrec⟩ := hrel
    have HRE := Lib.hid hrec
    have HF := Lib.hid hfoot
    clear hrec hfoot
    by_cases hlt : k < l.length
    · obtain ⟨r, hrk⟩ : ∃ r, rows[k]? = some r := ⟨_, List.getElem?_eq_getElem (by have := congrArg List.length HR.out; simp at this; omega)⟩
      have HIT : Hid (l[k]? = some r.it) := Lib.hid (by rw [← HR.out, List.getElem?_map, hrk]; rfl)
      have hi := hi1.ext hx
      obtain ⟨ad, rfl, k0, k1, k2⟩ := item_at hi hrk
      have hrm := List.mem_of_getElem? hrk
      have hrd := (hi.rd r hrm).1
      have hapt := (hi.rd r hrm).2 22 (by decide)
      have hcap := (hi.cap r hrm).1
      have hsrc := hi.src r hrm
      clear hrk hrm
      obtain ⟨p, kd, B, m, d, ys⟩ := r
      dsimp only at hrd hcap k0 k1 k2 hapt hsrc
      obtain rfl := hrd.len
      have hyl : ys.length ≤ 1099511627776 := by
        have := HLE.out _ (List.mem_of_getElem? HIT.out)
        have h2 : ys.length ≤ xs.length := this
        rw [HL.out] at h2
        omega
      have HOK : Hid (okAt k (p, kd, ys) ↔ (kd = 2 ∧ 8 ≤ ys.length ∧ ys.length ≤ 60008 ∧ Le.of (ys.take 8) = (k : Int) + 1)) := Lib.hid Iff.rfl
      go_upto_region 7 with fail
      go_cut [49] from 14 to 60 (fun t wx => t = .bool (decide (¬ okAt k (p, kd, ys))) ∧ wr = wx)
      case first =>
        have c2 : IntKind.u64.wrap ((k : Int) + 1) = k + 1 := wrap_u64 (by omega) (by omega)
        by_cases a1 : kd = 2
        · subst a1
          by_cases a2 : 8 ≤ ys.length
          · by_cases a4 : ys.length ≤ 60008
            · have i1 : (8 : Int) ≤ ys.length := by omega
              have i2 : (8 : Int) ≤ d := by omega
              go_wp2_with fail
              refine (Ref01.of_calls B 8 d (ys.take 8) _ (rd_take hrd a2) (by omega)).mono ?_
              rintro e w' ⟨rfl, rfl⟩
              obtain ⟨N, hN⟩ : ∃ N, Le.of (ys.take 8) = N := ⟨_, rfl⟩
              rw [hN]
              have HN := Lib.hid hN
              clear hN
              by_cases a3 : N = (k : Int) + 1
              · have hb3 : (N != (k : Int) + 1) = false := by rw [a3]; simp
                have HA3 := Lib.hid a3
                clear a3
                go_wp2_with fail
                go_meet
                refine ⟨?_, rfl⟩
                have hq : (decide ((ys.length : Int) < 8) || decide ((60008 : Int) < (ys.length : Int))) = false := by rw [decide_eq_false (by omega), decide_eq_false (by omega)]; rfl
                rw [hq]
                exact dec_f fun h => h (HOK.out.2 ⟨by simp, a2, a4, HN.out.trans HA3.out⟩)
              · have hb3 : (N != (k : Int) + 1) = true := by rw [bne_iff_ne]; exact a3
                have HA3 := Lib.hid a3
                clear a3
                go_wp2_with fail
                go_meet
                exact ⟨dec_t fun h => HA3.out (HN.out.symm.trans (HOK.out.1 h).2.2.2), rfl⟩
            · have i1 : (8 : Int) ≤ ys.length := by omega
              have i3 : (60008 : Int) < ys.length := by omega
              have HA4 := Lib.hid a4
              clear a4
              go_wp2_with fail
              go_meet
              exact ⟨dec_t fun h => HA4.out (HOK.out.1 h).2.2.1, rfl⟩
          · have i1 : (ys.length : Int) < 8 := by omega
            have HA2 := Lib.hid a2
            clear a2
            go_wp2_with fail
            go_meet
            exact ⟨dec_t fun h => HA2.out (HOK.out.1 h).2.1, rfl⟩
        · have hb1 : (kd != 2) = true := by rw [bne_iff_ne]; exact a1
          have HA1 := Lib.hid a1
          clear a1
          go_wp2_with fail
          go_meet
          exact ⟨dec_t fun h => HA1.out (HOK.out.1 h).1, rfl⟩
      case rest =>
        obtain ⟨rfl, rfl⟩ := hcut
        by_cases hok : okAt k (p, kd, ys)
        · have hb : decide (¬ okAt k (p, kd, ys)) = false := decide_eq_false fun h => h hok
          have h8 := (HOK.out.1 hok).2.1
          rw [hb]
          have HS : Hid (recs l 0 u = (outs (l.take (k + 1)) ++ (recs (l.drop (k + 1)) (k + 1) u).1, (recs (l.drop (k + 1)) (k + 1) u).2)) := Lib.hid (by
            rw [HRE.out, DiaryP.recs_go HIT.out hok, DiaryP.outs_next HIT.out, List.append_assoc]; rfl)
          have HO : Hid (outs (l.take (k + 1)) = outs (l.take k) ++ [ys.drop 8]) := Lib.hid (DiaryP.outs_next HIT.out)
          obtain ⟨vs, ho, hrep⟩ := hrows
          have hown1 : Own wr (fun i => w1.heap.size ≤ i) 22 1 (.slice A' k c') k vs := ⟨ho.row, HF.out⟩
          obtain ⟨b, rfl, _⟩ := hrd.cell (by omega)
          have hsx := hx.size
          have i1 : (8 : Int) ≤ ys.length := by omega
          have i2 : (8 : Int) ≤ d := by omega
          have i3 : (ys.length : Int) ≤ d := by omega
          have key : ∀ (B' : Option Addr), Rd wr .u8 B' (ys.length - 8) (ys.drop 8) → Apt w 22 wr B' (ys.length - 8) → (0 < ys.length - 8 → ∀ ad, B' = some ad → ∃ b, A = some b ∧ b.block = ad.block) → ∀ A9 c9 w9, Own w9 (fun i => w1.heap.size ≤ i) 22 1 (.slice A9 (k + 1) c9) (k + 1) (vs ++ [.slice B' (ys.length - 8) (d - 8)]) → Chg (fun i => (Value.slice A' k c').ownBlock = some i) (wr.alloc (.cells #[.slice B' (ys.length - 8) (d - 8)] 22)) w9 →
              Ext w1 w9 ∧ RowsR (fun i => ∃ b, A = some b ∧ b.block = i) w w9 A9 (k + 1) c9 (outs (l.take (k + 1))) ∧ ∀ i, (Value.slice A9 (k + 1) c9).ownBlock = some i → w1.heap.size ≤ i := by
            intro B' hb1 hb2 hb3 A9 c9 w9 ho9 hc9
            have hE := Ext.new wr (.cells #[.slice B' (ys.length - 8) (d - 8)] 22)
            have hoE := ho.extNew hE
            refine ⟨(hx.trans hE).chg hc9 fun i hi => HF.out i hi, ?_, ho9.foot⟩
            rw [HO.out]
            have hrep2 : Each (fun v x => ∃ B m d, v = Value.slice B m d ∧ m ≤ d ∧ Rd w9 .u8 B m x ∧ Apt w 22 w9 B m ∧ (0 < m → ∀ ad, B = some ad → ∃ b, A = some b ∧ b.block = ad.block)) vs (outs (l.take k)) := hrep.imp fun v x hv => by
              obtain ⟨B2, m2, d2, q1, q2, q3, q4, q5⟩ := hv
              exact ⟨B2, m2, d2, q1, q2, (q3.ext hE).chg hc9 ((q4.ext hE).ne hoE), (q4.ext hE).chg hc9 ((q4.ext hE).ne hoE), q5⟩
            have hnew : ∃ B m d', Value.slice B' (ys.length - 8) (d - 8) = Value.slice B m d' ∧ m ≤ d' ∧ Rd w9 .u8 B m (ys.drop 8) ∧ Apt w 22 w9 B m ∧ (0 < m → ∀ ad, B = some ad → ∃ b, A = some b ∧ b.block = ad.block) :=
              ⟨B', ys.length - 8, d - 8, rfl, by omega, (hb1.ext hE).chg hc9 ((hb2.ext hE).ne hoE), (hb2.ext hE).chg hc9 ((hb2.ext hE).ne hoE), hb3⟩
            exact ⟨_, ho9.mono fun i _ hi => Nat.le_trans hsz1 hi, hrep2.snoc hnew⟩
          have KEY := Lib.hid key
          have hrd8 := rd_drop hrd h8
          have hapt8 : Apt w 22 wr (some (b.add 8)) (ys.length - 8) := fun h0 ad ha => by
            cases ha
            rcases hapt (by omega) b rfl with h1 | ⟨c0, f0, e0, h1, h2⟩
            · exact .inl (by rw [block_add]; exact h1)
            · exact .inr ⟨c0, f0, e0, h1, by rw [block_add]; exact h2⟩
          have hvs : ∀ (B' : Option Addr) (j : Nat) v, [Value.slice B' (ys.length - 8) (d - 8)][j]? = some v → (wr.alloc (.cells #[.slice B' (ys.length - 8) (d - 8)] 22)).cell? ⟨wr.heap.size, j, none⟩ = some v := fun B' j v hv => blk_cell (at_new wr _) (Ext.refl _) (by simpa using hv)
          have HVS := Lib.hid hvs
          have HA8 := Lib.hid hapt8
          have HR8 := Lib.hid hrd8
          have HZ8 : Hid (0 < ys.length - 8 → ∀ ad, some (b.add 8) = some ad → ∃ b, A = some b ∧ b.block = ad.block) := Lib.hid fun h0 ad ha => by
            cases ha
            rw [block_add]
            exact hsrc (by omega) b rfl
          have HZ0 : Hid (0 < ys.length - 8 → ∀ ad, some b = some ad → ∃ b, A = some b ∧ b.block = ad.block) := Lib.hid fun h0 ad ha => by
            cases ha
            exact hsrc (by omega) b rfl
          clear hok hb HOK hi key hvs hapt8 hrd8 hapt hrep hsrc
          by_cases hd8 : d = 8
          · subst hd8
            have hl8 : ys.length - 8 = 0 := by omega
            have HR0 : Hid (Rd wr .u8 (some b) (ys.length - 8) (ys.drop 8)) := Lib.hid (by
              rw [hl8, List.drop_eq_nil_of_le (by omega)]; exact rd_nil _ _ _)
            have HA0 : Hid (Apt w 22 wr (some b) (ys.length - 8)) := Lib.hid fun h0 => by omega
            have HK0 := KEY.out _ HR0.out HA0.out HZ0.out
            have HV0 := HVS.out (some b)
            simp only [hl8, Nat.sub_self] at HK0 HV0
            replace HK0 := Lib.hid HK0
            replace HV0 := Lib.hid HV0
            clear hl8
            go_wp2_with (at_builtin; refine wpList_appE _ rfl _ _ _ rfl (fun i => w1.heap.size ≤ i) 22 _ 1 24 Try.underlying25 info_b rfl (by decide) (by decide) (.slice A' k c') k vs rfl (hown1.extNew (Ext.new _ _)) wr.heap.size 1 [.slice (some b) 0 0] rfl rfl HV0.out (by simp [Value.oneCell']) ?c2 (fun i hi => Nat.le_trans hsx (Nat.le_trans (Ext.new _ _).size hi)) ?_)
            case c2 => omega
            intro A9 c9 w9 ho9 hc9
            obtain ⟨g1, g2, g3⟩ := HK0.out A9 c9 w9 ho9 hc9
            clear ho9 hc9 ho hown1 hrd hx
            go_wp2_with fail
            go_roundw
            case rel => exact ⟨k + 1, _, _, rfl, by go_num, by omega, g1, g2, g3, HS.out⟩
            case measure => simp [intOf]; omega
          · have i4 : (8 : Int) < d := by omega
            have i5 : ¬ d = 8 := hd8
            go_wp2_with (at_builtin; refine wpList_appE _ rfl _ _ _ rfl (fun i => w1.heap.size ≤ i) 22 _ 1 24 Try.underlying25 info_b rfl (by decide) (by decide) (.slice A' k c') k vs rfl (hown1.extNew (Ext.new _ _)) wr.heap.size 1 [.slice (some (b.add 8)) (ys.length - 8) (d - 8)] rfl rfl (HVS.out _) (by simp [Value.oneCell']) ?c2 (fun i hi => Nat.le_trans hsx (Nat.le_trans (Ext.new _ _).size hi)) ?_)
            case c2 => omega
            intro A9 c9 w9 ho9 hc9
            obtain ⟨g1, g2, g3⟩ := KEY.out _ HR8.out HA8.out HZ8.out A9 c9 w9 ho9 hc9
            clear ho9 hc9 ho hown1 hrd hx
            go_wp2_with fail
            go_roundw
            case rel => exact ⟨k + 1, _, _, rfl, by go_num, by omega, g1, g2, g3, HS.out⟩
            case measure => simp [intOf]; omega
        · have hb : decide (¬ okAt k (p, kd, ys)) = true := decide_eq_true hok
          rw [hb]
          have HE : Hid (records xs = (outs (l.take k), p)) := Lib.hid (by
            rw [HREC.out, HRE.out, DiaryP.recs_stop HIT.out hok, List.append_nil]; rfl)
          have d0 : ∀ W, Ext wr.drew W → W.cell? (ad.add (k * 3)) = some (.int .i64 p) := fun W hW => (drew_ext hW).cell_ k0
          have HX := Lib.hid (HX1.out.trans hx)
          clear hok hb HOK hx hi hi1
          go_wp2_with fail
          refine Lex.wp_region_ext [] (by kernel_rfl) (by kernel_rfl) (by repeat (first | exact Lex.st_nil | refine Lex.st_cons (by first | exact Lex.nums_st | exact Lex.const_st | exact Lex.such_st | exact Lex.row_st | exact Lex.rowE_st | exact Lex.litR_st | assumption) ?_)) ?_
          repeat (first | (refine Lex.lex_skip (by rfl) ?_; simp only [Act.put, List.setIfInBounds_toArray, List.set_cons_zero, List.set_cons_succ]) | (refine Lex.lex_still (by rfl) (by rfl) ?_; apply Exists.intro; refine ⟨fun W hW => ?_, ?_⟩; (have hE := hW.1; have hE2 := Base.Ext.trans (Base.Ext.drew (Base.Ext.refl _)) hW.1; clear hW; go_simp; try with_reducible rfl); simp only [Act.put, List.setIfInBounds_toArray, List.set_cons_zero, List.set_cons_succ]))
          refine Lex.lex_nil (fun W hW => ?_)
          have hX9 := drew_ext hW.1
          clear hW d0
          go_wp2_with fail
          go_ret2
          rw [HE.out]
          exact ⟨HX.out.trans hX9, A', k, c', rfl, hrows.ext hX9⟩
    · obtain rfl : k = l.length := by omega
      rw [List.take_length] at hrows
      have HE : Hid (records xs = (outs l, u)) := Lib.hid (by
        rw [HREC.out, HRE.out, DiaryP.recs_end, List.take_length, List.append_nil])
      have HX := Lib.hid (HX1.out.trans hx)
      clear hx hi1
      go_wp2_with fail
      go_ret2
      rw [HE.out]
      exact ⟨HX.out, A', l.length, c', rfl, hrows⟩
end Go.Proofs.Ytfhgjopoohfhjaa.DiaryRef
