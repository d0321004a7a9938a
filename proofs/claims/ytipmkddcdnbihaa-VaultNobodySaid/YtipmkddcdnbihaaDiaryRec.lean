import Derived.Test.YtipmkddcdnbihaaScan
import Derived.Test.YtipmkddcdnbihaaVec
import Derived.Test.YtipmkddcdnbihaaOrd
import Derived.Test.YtipmkddcdnbihaaDiaryP
import Derived.Deep.QuietTactic
import Derived.BigQuiet
import Derived.Deep.DeepCutAuto
import Derived.Deep.CutRange
namespace Go.Proofs.Ytipmkddcdnbihaa.DiaryRec
open Go.RowKit Base Step Vec
open Scan (Row Items)
open DiaryP (okAt recs outs records frame)

theorem info_b : (Try.prog.info? 55).map (fun i => (i.zero, i.size, i.bytes)) = some (some (.slice none 0 0), 1, 24) := by kernel_rfl
/-- Rows of bytes in blocks of S. -/
def Rows2 (w : World) (S : Nat → Prop) (A : Option Addr) (n c : Nat) (xs : List (List Int)) : Prop := ∃ vs, Own w S 55 1 (.slice A n c) n vs ∧ Each (Bytes 5 w S) vs xs
theorem Rows2.ext {w w' : World} {S : Nat → Prop} {A : Option Addr} {n c : Nat} {xs : List (List Int)} (h : Rows2 w S A n c xs) (he : Ext w w') : Rows2 w' S A n c xs := by
  obtain ⟨vs, h1, h2⟩ := h
  exact ⟨vs, h1.extNew he, h2.imp fun _ _ k => k.ext he⟩
theorem Rows2.mono {w : World} {S S' : Nat → Prop} {A : Option Addr} {n c : Nat} {xs : List (List Int)} (h : Rows2 w S A n c xs) (hS : ∀ i, i < w.heap.size → S i → S' i) : Rows2 w S' A n c xs := by
  obtain ⟨vs, h1, h2⟩ := h
  exact ⟨vs, h1.mono hS, h2.imp fun _ _ k => k.mono hS⟩
theorem Rows2.len {w : World} {S : Nat → Prop} {A : Option Addr} {n c : Nat} {xs : List (List Int)} (h : Rows2 w S A n c xs) : xs.length = n := by
  obtain ⟨vs, h1, h2⟩ := h
  have := h1.row.1
  have := h2.len
  omega
theorem dec_t {p : Prop} [Decidable p] (h : p) : Value.bool true = Value.bool (decide p) := by rw [decide_eq_true h]
theorem dec_f {p : Prop} [Decidable p] (h : ¬ p) : Value.bool false = Value.bool (decide p) := by rw [decide_eq_false h]
/-- A frame's three cells. -/
theorem item_at {Z : Nat → Prop} {w0 w : World} {e : TypeId} {A : Option Addr} {n c : Nat} {rows : List Row} (h : Items Z w0 w e A n c rows) {k : Nat} {r : Row} (hr : rows[k]? = some r) : ∃ ad, A = some ad ∧ w.cell? (ad.add (k * 3)) = some (.int .i64 r.p) ∧
    w.cell? ⟨(ad.add (k * 3)).block, (ad.add (k * 3)).off + 1, none⟩ = some (.int .u16 r.k) ∧ w.cell? ⟨(ad.add (k * 3)).block, (ad.add (k * 3)).off + 2, none⟩ = some (.slice r.A r.n r.c) := by
  have g := fun j => get_flat Row.cells 3 (fun _ => rfl) rows k j r hr
  obtain ⟨ad, hA, k0⟩ := own_cell h.own (j := k * 3 + 0) (u := .int .i64 r.p) (by rw [g 0 (by omega)]; rfl)
  obtain ⟨ad1, hA1, k1⟩ := own_cell h.own (j := k * 3 + 1) (u := .int .u16 r.k) (by rw [g 1 (by omega)]; rfl)
  obtain ⟨ad2, hA2, k2⟩ := own_cell h.own (j := k * 3 + 2) (u := .slice r.A r.n r.c) (by rw [g 2 (by omega)]; rfl)
  rw [hA] at hA1 hA2
  cases hA1
  cases hA2
  rw [Nat.add_zero] at k0
  rw [← add_of_add] at k1 k2
  exact ⟨ad, hA, k0, k1, k2⟩
set_option maxRecDepth 100000 in
theorem rest_calls (g : Nat) (xs : List Int) (torn : Bool) (w : World) (hr : Pack.Reader w g xs torn) (hx : xs.length ≤ 1099511627776) :
    Calls Try.prog 178 #[.pointer (some ⟨g, 0, none⟩)] w fun e w' => ∃ A c, e = .returned (.slice A xs.length c) ∧ New w w' 5 1 A xs.length c (nums .u8 xs) ∧ Chg (fun i => i = g) w w' := by
  have HR := Lib.hid hr
  clear hr
  go_enter Try.func178, Try.ntmps178
  go_wp2_with fail
  refine (Pack.left_calls g xs torn _ HR.out).mono ?_
  rintro e w' ⟨rfl, rfl⟩
  go_wp2_with fail
  refine (Pack.rraw_yes g xs torn xs.length _ HR.out (by omega) (Int.le_refl _) hx).mono ?_
  rintro e w1 ⟨A, c, rfl, ho, _, hc⟩
  rw [Int.toNat_natCast] at *
  rw [List.take_length] at ho
  go_wp2_with fail
  go_ret
  exact ⟨A, c, rfl, ho, hc⟩
set_option maxRecDepth 100000 in
set_option maxHeartbeats 1000000 in
theorem frame_calls (num : Int) (B : Option Addr) (m d : Nat) (ys : List Int) (w : World) (hr : Rd w .u8 B m ys) (hm : m ≤ 60000) (h0 : 0 ≤ num) (h1 : num < 18446744073709551616) :
    Calls Try.prog 167 #[.int .u64 num, .slice B m d] w fun e w' => ∃ A' c', e = .returned (.slice A' (20 + m) c') ∧ New w w' 5 1 A' (20 + m) c' (nums .u8 (frame num ys)) ∧ Ext w w' := by
  obtain rfl := hr.len
  have hS : ∀ i, (w.alloc (.cells #[.slice none 0 0] 190)).heap.size ≤ i → w.heap.size ≤ i := fun i hi => by simp at hi; omega
  go_enter Try.func167, Try.ntmps167
  go_wp2_with fail
  refine (Pack.num_calls (fun i => w.heap.size ≤ i) w.heap.size [] num 8 _ hS (Pack.writer_new _ _ (Nat.le_refl _)) (by omega) (by omega) h0 h1 (by simp)).mono ?_
  rintro e w1 ⟨rfl, hw1, hc1⟩
  have hx1 := ((Ext.refl w).alloc (.cells #[.slice none 0 0] 190)).chg hc1 (fun _ h => h)
  have hl : (([] : List Int) ++ Le.le (8 : Int).toNat num) = Le.le 8 num := rfl
  rw [hl] at hw1
  have hll : (Le.le 8 num).length = 8 := Le.le_length _ _
  clear hc1 hl
  go_wp2_with fail
  refine (Pack.wraw_calls (fun i => w.heap.size ≤ i) w.heap.size _ B _ d ys _ (fun i hi => Nat.le_trans hx1.size hi) hw1 (hr.ext hx1) (by omega) (by omega)).mono ?_
  rintro e w2 ⟨rfl, hw2, hc2⟩
  have hx2 := hx1.chg hc2 (fun _ h => h)
  clear hw1 hc2
  go_wp2_with fail
  refine (Pack.bytes_calls _ _ _ _ hw2 (by simp [hll]; omega)).mono ?_
  rintro e w3 ⟨A3, c3, rfl, ho3, hb3⟩
  have hx3 := hx2.trans hb3
  have hln : (Le.le 8 num ++ ys).length = 8 + ys.length := by simp [hll]
  rw [hln] at ho3
  have hr3 := ho3.rd hw2.wf
  clear hw2 hb3 ho3
  go_wp2_with fail
  refine (SealFrame.frame_calls 2 A3 (8 + ys.length) c3 (Le.le 8 num ++ ys) _ (by omega) (by omega) (by rw [← hln]; rw [hln]; exact hr3) (by omega)).mono ?_
  rintro e w4 ⟨A4, c4, rfl, ho4, hb4⟩
  go_wp2_with fail
  go_ret
  refine ⟨A4, c4, by rw [show 12 + (8 + ys.length) = 20 + ys.length by omega]; rfl, ?_, hx3.trans hb4⟩
  rw [show 12 + (8 + ys.length) = 20 + ys.length by omega] at ho4
  exact ho4.mono fun i _ hi => Nat.le_trans hx3.size hi
set_option maxRecDepth 100000 in
set_option maxHeartbeats 4000000 in
theorem records_calls (A : Option Addr) (n c : Nat) (xs : List Int) (w : World) (hr : Rd w .u8 A n xs) (hc : n ≤ c) (h0 : A = none → c = 0) (hn : n ≤ 1099511627776) :
    Calls Try.prog 152 #[.slice A n c] w fun e w' => Ext w w' ∧ ∃ A' m c', e = .returned (.tuple #[.slice A' m c', .int .i64 (records xs).2]) ∧ Rows2 w' (fun i => w.heap.size ≤ i) A' m c' (records xs).1 := by
  have HL := Lib.hid hr.len
  have HU : Hid (Le.U8s xs) := Lib.hid fun x hx => wf_u8 (hr.wf x hx)
  go_enter Try.func152, Try.ntmps152
  go_wp2_with fail
  refine (Scan.scan_at A n c xs _ hr hc h0 hn).mono ?_
  rintro e w1 ⟨he1, A1, c1, rows, rfl, hi1, hrows⟩
  have HREC : Hid (records xs = recs (Frm.scan n 0 xs) 0 (Frm.used n 0 xs)) := Lib.hid (by unfold records; rw [HL.out])
  have hln := DiaryP.scan_count n 0 xs
  have HLE := Lib.hid (DiaryP.scan_len n 0 xs)
  generalize Frm.scan n 0 xs = l at *
  generalize Frm.used n 0 xs = u at *
  have hsz1 := he1.size
  have HR := Lib.hid hrows
  have HX1 := Lib.hid he1
  clear hrows hr hc h0 he1
  go_wp2_with fail
  go_loopw [4, 18] (fun o i wr => ∃ (k : Nat) (A' : Option Addr) (c' : Nat), o = .slice A' k c' ∧ i = .int .i64 k ∧ k ≤ l.length ∧ Ext w1 wr ∧ Rows2 wr (fun i => w1.heap.size ≤ i) A' k c' (outs (l.take k)) ∧ recs l 0 u = (outs (l.take k) ++ (recs (l.drop k) k u).1, (recs (l.drop k) k u).2)) (fun _ i _ => l.length - (intOf i).toNat)
  case atStart => exact ⟨0, none, 0, rfl, rfl, Nat.zero_le _, Ext.refl _, ⟨[], Own.nil _ _ _ _, Each.nil _⟩, by simp [outs]⟩
  case round =>
    obtain ⟨k, A', c', rfl, rfl, hk, hx, hrows, hrec⟩ := hrel
    have HRE := Lib.hid hrec
    clear hrec
    by_cases hlt : k < l.length
    · obtain ⟨r, hrk⟩ : ∃ r, rows[k]? = some r := ⟨_, List.getElem?_eq_getElem (by have := congrArg List.length HR.out; simp at this; omega)⟩
      have HIT : Hid (l[k]? = some r.it) := Lib.hid (by rw [← HR.out, List.getElem?_map, hrk]; rfl)
      have hi := hi1.ext hx
      obtain ⟨ad, rfl, k0, k1, k2⟩ := item_at hi hrk
      have hrm := List.mem_of_getElem? hrk
      have hrd := (hi.rd r hrm).1
      have hcap := hi.cap r hrm
      clear hrk hrm
      obtain ⟨p, kd, B, m, d, ys⟩ := r
      dsimp only at hrd hcap k0 k1 k2
      obtain rfl := hrd.len
      have hE4 := Ext.new wr (.cells #[.int .i64 p, .int .u16 kd, .slice B ys.length d] 321)
      have hyl : ys.length ≤ 1099511627776 := by
        have := HLE.out _ (List.mem_of_getElem? HIT.out)
        have h2 : ys.length ≤ xs.length := this
        rw [HL.out] at h2
        omega
      have hw := hrd.wf
      go_wp2_with fail
      refine (Pack.read_calls B ys.length d ys _ (hrd.ext hE4) hcap.1 hcap.2).mono ?_
      rintro e w5 ⟨rfl, hr5, hb5⟩
      have z0 := blk_cell (at_new wr (.cells #[.int .i64 p, .int .u16 kd, .slice B ys.length d] 321)) hb5 (i := 0) rfl
      have z1 := blk_cell (at_new wr (.cells #[.int .i64 p, .int .u16 kd, .slice B ys.length d] 321)) hb5 (i := 1) rfl
      have hsz5 := hb5.size
      have hE5 := hE4.trans hb5
      have hG : (wr.alloc (.cells #[.int .i64 p, .int .u16 kd, .slice B ys.length d] 321)).heap.size = wr.heap.size + 1 := by simp
      rw [hG] at hr5 hsz5 ⊢
      clear hb5 hE4 hrd hG
      go_wp2_with fail
      refine (Pack.rnum_calls _ ys false 8 _ hr5 (by omega) (by omega) hyl).mono ?_
      rintro e w6 ⟨rfl, hr6, hc6⟩
      have h8 : (8 : Int).toNat = 8 := rfl
      rw [h8] at hr6 ⊢
      have y0 := hc6.cell z0 (by simp)
      have y1 := hc6.cell z1 (by simp)
      have hX6 : Ext wr w6 := hE5.chg hc6 (fun i hi => by rw [hi]; omega)
      have hsz6 := hc6.size
      have hu8 : Le.U8s ys := fun x hx => wf_u8 (hw x hx)
      clear hr5 hc6 z0 z1 h8 hE5
      have HOK : Hid (okAt k (p, kd, ys) ↔ (kd = 2 ∧ 8 ≤ ys.length ∧ ys.length ≤ 60008 ∧ Le.of (ys.take 8) = (k : Int) + 1)) := Lib.hid Iff.rfl
      go_upto_region 8 with fail
      go_cut [10, 18, 46] from 18 to 55 (fun _ i t wx => i = .int .i64 k ∧ t = .bool (decide (¬ okAt k (p, kd, ys))) ∧ w6 = wx)
      case first =>
        have c1 : IntKind.u64.wrap (k : Int) = k := wrap_u64 (by omega) (by omega)
        have c2 : IntKind.u64.wrap ((k : Int) + 1) = k + 1 := wrap_u64 (by omega) (by omega)
        by_cases a1 : kd = 2
        · by_cases a2 : 8 ≤ ys.length
          · have e1 : Pack.rt 8 ys false = false := if_pos a2
            have e2 : Pack.rx 8 ys = ys.drop 8 := if_pos a2
            have e3 : Pack.rn 8 ys = Le.of (ys.take 8) := if_pos a2
            rw [e1, e2] at hr6
            rw [e3]
            clear e1 e2 e3
            obtain ⟨N, hN⟩ : ∃ N, Le.of (ys.take 8) = N := ⟨_, rfl⟩
            rw [hN]
            have HN := Lib.hid hN
            clear hN
            subst a1
            by_cases a3 : N = (k : Int) + 1
            · have hb3 : (N != (k : Int) + 1) = false := by rw [a3]; simp
              have HA3 := Lib.hid a3
              clear a3
              go_wp2_with fail
              refine (Pack.torn_calls _ _ _ _ hr6).mono ?_
              rintro e w' ⟨rfl, rfl⟩
              go_wp2_with fail
              refine (Pack.left_calls _ _ _ _ hr6).mono ?_
              rintro e w' ⟨rfl, rfl⟩
              have hdl : ((ys.drop 8).length : Int) = ys.length - 8 := by rw [List.length_drop]; omega
              rw [hdl]
              go_wp2_with fail
              go_meet
              refine ⟨rfl, congrArg Value.bool (decide_eq_decide.2 ⟨fun h h2 => ?_, fun h => ?_⟩), rfl⟩
              · have h4 : ys.length ≤ 60008 := by first | exact (HOK.out.1 h2).2.2.1 | exact (HOK.out.1 h2).2.1
                omega
              · rcases Int.lt_or_le 60000 ((ys.length : Int) - 8) with h4 | h4
                · exact h4
                · exact absurd (HOK.out.2 ⟨by simp, a2, by omega, HN.out.trans HA3.out⟩) h
            · have hb3 : (N != (k : Int) + 1) = true := by rw [bne_iff_ne]; exact a3
              have HA3 := Lib.hid a3
              clear a3
              go_wp2_with fail
              refine (Pack.torn_calls _ _ _ _ hr6).mono ?_
              rintro e w' ⟨rfl, rfl⟩
              go_wp2_with fail
              go_meet
              exact ⟨rfl, dec_t fun h => HA3.out (HN.out.symm.trans (HOK.out.1 h).2.2.2), rfl⟩
          · have e1 : Pack.rt 8 ys false = true := if_neg a2
            rw [e1] at hr6
            have HA2 := Lib.hid a2
            clear e1 a2
            subst a1
            go_wp2_with fail
            refine (Pack.torn_calls _ _ _ _ hr6).mono ?_
            rintro e w' ⟨rfl, rfl⟩
            go_wp2_with fail
            go_meet
            exact ⟨rfl, dec_t fun h => HA2.out (HOK.out.1 h).2.1, rfl⟩
        · have hb1 : (kd != 2) = true := by rw [bne_iff_ne]; exact a1
          have HA1 := Lib.hid a1
          clear a1
          go_wp2_with fail
          go_meet
          exact ⟨rfl, dec_t fun h => HA1.out (HOK.out.1 h).1, rfl⟩
      case rest =>
        obtain ⟨rfl, rfl, rfl⟩ := hcut
        by_cases hok : okAt k (p, kd, ys)
        · have hb : decide (¬ okAt k (p, kd, ys)) = false := decide_eq_false fun h => h hok
          have h8 := (HOK.out.1 hok).2.1
          have e2 : Pack.rx 8 ys = ys.drop 8 := if_pos h8
          rw [e2] at hr6
          rw [hb]
          have HS : Hid (recs l 0 u = (outs (l.take (k + 1)) ++ (recs (l.drop (k + 1)) (k + 1) u).1, (recs (l.drop (k + 1)) (k + 1) u).2)) := Lib.hid (by
            rw [HRE.out, DiaryP.recs_go HIT.out hok, DiaryP.outs_next HIT.out, List.append_assoc]; rfl)
          have HO : Hid (outs (l.take (k + 1)) = outs (l.take k) ++ [ys.drop 8]) := Lib.hid (DiaryP.outs_next HIT.out)
          have hX6' := hx.trans hX6
          clear hok hb e2 HOK hi
          go_wp2_with fail
          refine (rest_calls _ _ _ _ hr6 (by rw [List.length_drop]; omega)).mono ?_
          rintro e w7 ⟨A7, c7, rfl, ho7, hc7⟩
          have hsz7 := hc7.size
          have hX7 : Ext wr w7 := hX6.chg hc7 (fun i hi => by rw [hi]; omega)
          have hE8 := hX7.trans (Ext.new w7 (.cells #[.slice A7 (ys.drop 8).length c7] 55))
          obtain ⟨vs, ho, hrep⟩ := hrows
          have hwf7 : ∀ x ∈ ys.drop 8, (Lit.int .u8 x).wf = true := fun x hx => hw x (List.mem_of_mem_drop hx)
          have hb7 := (Bytes.new ho7 hwf7).ext (Ext.new w7 (.cells #[.slice A7 (ys.drop 8).length c7] 55))
          have hvs : ∀ (j : Nat) v, [Value.slice A7 (ys.drop 8).length c7][j]? = some v → (w7.alloc (.cells #[.slice A7 (ys.drop 8).length c7] 55)).cell? ⟨w7.heap.size, j, none⟩ = some v := fun j v hv => blk_cell (at_new w7 _) (Ext.refl _) (by simpa using hv)
          have hown := ho.extNew hE8
          have hsx := hx.size
          have hsz8 := hE8.size
          generalize (ys.drop 8).length = q at *
          clear hr6 hc7 ho7 y0 y1
          go_wp2_with (at_builtin; refine wpList_appE _ rfl _ _ _ rfl (fun i => w1.heap.size ≤ i) 55 _ 1 24 Try.underlying132 info_b rfl (by decide) (by decide) (.slice A' k c') k vs rfl hown w7.heap.size 1 [.slice A7 q c7] rfl rfl hvs (by simp [Value.oneCell']) ?c2 (fun i hi => by omega) ?_)
          case c2 => omega
          intro A9 c9 w9 ho9 hc9
          have hsz9 := hc9.size
          have hX9 : Ext w1 w9 := (hx.trans hE8).chg hc9 fun i hi => ho.foot i hi
          have hrows9 : Rows2 w9 (fun i => w1.heap.size ≤ i) A9 (k + 1) c9 (outs (l.take (k + 1))) := by
            rw [HO.out]
            exact ⟨_, ho9, (hrep.imp fun _ _ b => (b.ext hE8).kind hc9 (own_kinds hown (by decide))).snoc (((hb7.kind hc9 (own_kinds hown (by decide)))).mono fun i _ hi => by omega)⟩
          clear ho hrep hb7 hvs hown ho9 hc9 hE8 hx hX6 hX6' hX7
          go_wp2_with fail
          go_roundw
          case rel => exact ⟨k + 1, _, _, rfl, by go_num, by omega, hX9, hrows9, HS.out⟩
          case measure => simp [intOf]; omega
        · have hb : decide (¬ okAt k (p, kd, ys)) = true := decide_eq_true hok
          rw [hb]
          have HE : Hid (records xs = (outs (l.take k), p)) := Lib.hid (by
            rw [HREC.out, HRE.out, DiaryP.recs_stop HIT.out hok, List.append_nil]; rfl)
          have d0 : ∀ W, Ext w6.drew W → W.cell? ⟨wr.heap.size, 0, none⟩ = some (.int .i64 p) := fun W hW => (drew_ext hW).cell_ y0
          have HX := Lib.hid (HX1.out.trans (hx.trans hX6))
          have hrows6 := hrows.ext hX6
          clear hok hb HOK hX6 hx hi hi1 hrows hr6
          go_wp2_with fail
          refine Lex.wp_region_ext [] (by kernel_rfl) (by kernel_rfl) (by repeat (first | exact Lex.st_nil | refine Lex.st_cons (by first | exact Lex.nums_st | exact Lex.const_st | exact Lex.such_st | exact Lex.row_st | exact Lex.rowE_st | exact Lex.litR_st | assumption) ?_)) ?_
          repeat (first | (refine Lex.lex_skip (by rfl) ?_; simp only [Act.put, List.setIfInBounds_toArray, List.set_cons_zero, List.set_cons_succ]) | (refine Lex.lex_still (by rfl) (by rfl) ?_; apply Exists.intro; refine ⟨fun W hW => ?_, ?_⟩; (have hE := hW.1; have hE2 := Base.Ext.trans (Base.Ext.drew (Base.Ext.refl _)) hW.1; clear hW; go_simp; try with_reducible rfl); simp only [Act.put, List.setIfInBounds_toArray, List.set_cons_zero, List.set_cons_succ]))
          refine Lex.lex_nil (fun W hW => ?_)
          have hX9 := drew_ext hW.1
          clear hW d0
          go_wp2_with fail
          go_ret2
          rw [HE.out]
          exact ⟨HX.out.trans hX9, A', k, c', rfl, (hrows6.ext hX9).mono fun i _ hi => Nat.le_trans hsz1 hi⟩
    · obtain rfl : k = l.length := by omega
      rw [List.take_length] at hrows
      have HE : Hid (records xs = (outs l, u)) := Lib.hid (by
        rw [HREC.out, HRE.out, DiaryP.recs_end, List.take_length, List.append_nil])
      have HX := Lib.hid (HX1.out.trans hx)
      clear hx hi1
      go_wp2_with fail
      go_ret2
      rw [HE.out]
      exact ⟨HX.out, A', l.length, c', rfl, hrows.mono fun i _ hi => Nat.le_trans hsz1 hi⟩
end Go.Proofs.Ytipmkddcdnbihaa.DiaryRec
