/- BookNobody: the law's Go function returns true for every input, and leaves each argument as it was. No condition beyond the row's own reach. -/
import Derived.Test.YtipmkddcdnbihaaRows
import Derived.WalkKit
import Derived.ProofKit
import Derived.OpenShut
import Derived.ShutString
import Derived.ChangeOld
import Derived.Below
import Derived.SizedLaws
import Derived.ChangeSlices
import Derived.Test.YtipmkddcdnbihaaBk7
/- Books: none, and of what may not be; the chapter's example; BookNobody; walked. -/
namespace Go.Proofs.Ytipmkddcdnbihaa.Bk
open Go.RowKit Base Step Vec Shape Erase Tbl
open Diary (Or2)
open DiaryP (records frame)
open DiaryKeepsP (frames)
theorem bk_plr {w : World} {gk gd gt gp sl nd : Nat} {t : Tb} {St Sd : Nat → Prop} {bs : List Int} {safe : Nat} {most : Int} {recs : List (List Int)} {m : Nat} (h : BkAt w gk gd gt gp sl nd t St Sd bs safe most recs m) : BkAt w gk gd gt gp sl nd t (fun i => St i ∧ Pl w i) (fun i => Sd i ∧ Pl w i) bs safe most recs m := ⟨h.at_, both_pl h.b, h.tb⟩
theorem crash_all (xs : List Int) (keep bits : Int) : TapeP.crash xs xs.length keep bits = xs := by
  unfold TapeP.crash
  have h : TapeP.kept keep (xs.length - xs.length) = 0 := by have := TapeP.kept_le keep (xs.length - xs.length); omega
  rw [h, if_neg (by omega), Nat.add_zero, List.take_length]
theorem records_all (rs : List (List Int)) (h : ∀ r ∈ rs, DiaryKeepsP.Fine r) (hn : rs.length < 4294967296) : records (frames 0 rs) = (rs, ((frames 0 rs).length : Int)) := by
  have := DiaryKeepsP.records_frames rs [] h (fun h => by have := h.1.1; simp at this) hn
  rwa [List.append_nil] at this
theorem rows_none {W : World} : (Sh.sl rowS).ok W (none, 0, 0, []) := ⟨rfl, Nat.le_refl _, by simp [maxLen], fun _ => rfl, fun i x hx => (by cases hx)⟩
set_option maxRecDepth 100000 in
theorem dopen_nil (w : World) : Calls Try.prog 87 #[.pointer none] w fun e w' => e = .returned (.tuple #[.pointer none, .int .i64 3]) ∧ Ext w w' := by
  go_enter Try.func87, Try.ntmps87
  go_wp2_with fail
  go_ret2
  exact ⟨rfl, Ext.refl _⟩
set_option maxRecDepth 100000 in
theorem new_bad (sl nd : Int) (w : World) (h : ¬ (1 ≤ sl ∧ sl ≤ 24 ∧ 1 ≤ nd ∧ nd ≤ 32)) : Calls Try.prog 86 #[.int .i64 sl, .int .i64 nd] w fun e w' => e = .returned (.tuple #[.pointer none, .int .i64 1]) ∧ Ext w w' := by
  by_cases h1 : sl < 1
  · go_enter Try.func86, Try.ntmps86
    go_wp2_with fail
    go_ret2
    exact ⟨rfl, Ext.refl _⟩
  by_cases h2 : 24 < sl
  · go_enter Try.func86, Try.ntmps86
    go_wp2_with fail
    go_ret2
    exact ⟨rfl, Ext.refl _⟩
  by_cases h3 : nd < 1
  · go_enter Try.func86, Try.ntmps86
    go_wp2_with fail
    go_ret2
    exact ⟨rfl, Ext.refl _⟩
  · have h4 : 32 < nd := by omega
    go_enter Try.func86, Try.ntmps86
    go_wp2_with fail
    go_ret2
    exact ⟨rfl, Ext.refl _⟩
set_option maxRecDepth 100000 in
theorem open_bad (p : Value) (sl nd : Int) (w : World) (h : ¬ (1 ≤ sl ∧ sl ≤ 24 ∧ 1 ≤ nd ∧ nd ≤ 32)) : Calls Try.prog 37 #[p, .int .i64 sl, .int .i64 nd] w fun e w' => e = .returned (.tuple #[.pointer none, .int .i64 1]) ∧ Ext w w' := by
  go_enter Try.func37, Try.ntmps37
  go_wp2_with fail
  refine (new_bad sl nd w h).mono ?_
  rintro e w1 ⟨rfl, he⟩
  go_wp2_with fail
  go_ret2
  exact ⟨rfl, he⟩
set_option maxRecDepth 100000 in
theorem open_nil (w : World) : Calls Try.prog 37 #[.pointer none, .int .i64 1, .int .i64 1] w fun e w' => e = .returned (.tuple #[.pointer none, .int .i64 3]) ∧ Ext w w' := by
  go_enter Try.func37, Try.ntmps37
  go_wp2_with fail
  refine (Tbl.new_calls 1 1 w (by decide) (by decide) (by decide) (by decide)).mono ?_
  rintro e w1 ⟨rfl, he1, _⟩
  go_wp2_with fail
  refine (dopen_nil w1).mono ?_
  rintro e w2 ⟨rfl, he2⟩
  go_wp2_with fail
  go_ret2
  exact ⟨rfl, he1.trans he2⟩
set_option maxRecDepth 100000 in
theorem write_nil (o : Tbl.Op) (w : World) : Calls Try.prog 41 #[.pointer none, opV o] w fun e w' => e = .returned (.int .i64 3) ∧ Ext w w' := by
  have he1 := Ext.new w (.cells (opC o) 82)
  go_enter Try.func41, Try.ntmps41
  go_wp2_with fail
  go_ret
  exact ⟨rfl, he1⟩
set_option maxRecDepth 100000 in
theorem do_nil (o : Tbl.Op) (w : World) : Calls Try.prog 42 #[.pointer none, opV o] w fun e w' => e = .returned (.int .i64 3) ∧ Ext w w' := by
  have hb1 := at_new w (.cells (opC o) 82)
  have he1 := Ext.new w (.cells (opC o) 82)
  go_enter Try.func42, Try.ntmps42
  go_upto_region 1 with fail
  generalize w.alloc (.cells (opC o) 82) = w1 at *
  have HB1 := Lib.hid hb1
  have HE1 := Lib.hid he1
  clear hb1 he1
  go_wp2_with (refine wpList_load_rowG rfl 82 _ rfl w.heap.size rfl 82 (opC o) (0, 0) _ HB1.out Try.underlying82 rfl (by kernel_rfl) ?_)
  refine (write_nil o w1).mono ?_
  rintro e w2 ⟨rfl, he2⟩
  have HE2 := Lib.hid (HE1.out.trans he2)
  clear he2
  go_wp2_with fail
  go_ret
  exact ⟨rfl, HE2.out⟩
set_option maxRecDepth 100000 in
theorem len_nil (w : World) : Calls Try.prog 40 #[.pointer none] w fun e w' => e = .returned (.int .i64 0) ∧ Ext w w' := by
  go_enter Try.func40, Try.ntmps40
  go_wp2_with fail
  go_ret
  exact ⟨rfl, Ext.refl _⟩
set_option maxRecDepth 100000 in
theorem table_nil (w : World) : Calls Try.prog 39 #[.pointer none] w fun e w' => e = .returned (.pointer none) ∧ Ext w w' := by
  go_enter Try.func39, Try.ntmps39
  go_wp2_with fail
  go_ret
  exact ⟨rfl, Ext.refl _⟩
/-- The example's operation. -/
def op1 : Tbl.Op := ⟨1, 1, ⟨#[]⟩, 0, 0, 0, none, 0, 0, [], 0, 0, 0, 0⟩
theorem op1_fit : Fit 1 op1 := ⟨.inl rfl, by decide, fun h => absurd h (by decide), fun h => absurd h (by decide), fun h => absurd h (by decide), fun h => absurd h (by decide)⟩
theorem op1_at (W : World) : OpAt W op1 := at_flat (by decide) (by decide) (Nat.zero_le _) (by decide) (by decide) (by decide) (by decide)
theorem op1_len : (opB op1).length = 5 := by
  have : opB op1 = Le.le 1 1 ++ Le.le 4 1 := rfl
  rw [this, List.length_append, Le.le_length, Le.le_length]
def tb0 : Tb := ⟨1, 0, none, 0, 0, []⟩
def tb2 : Tb := ⟨2, 0, none, 0, 0, []⟩
theorem doc0 (w : World) : Doc w tb2 := ⟨rfl, Nat.le_refl _, by decide, fun _ => rfl, fun i x hx => (by cases hx)⟩
theorem begin_zero {x : Int} (h : x = 1) : beginC x op1 = 0 := by
  subst h
  exact if_pos ⟨rfl, by decide⟩
theorem hist1 (w : World) : Hist 1 1 [norm op1] (fun i => if i ≤ 0 then tb0 else tb2) := by
  have h := (Hist.nil 1 1).snoc (o := op1) (r' := tb2) (w := w) (V := w) (by
    show RApplyR 1 1 tb0 op1 tb2
    unfold RApplyR
    rw [if_pos (show op1.kind = 1 from rfl), begin_zero (x := tb0.nx) rfl, if_pos rfl]
    rfl) (by
    show rApplyC 1 1 tb0 op1 = 0
    unfold rApplyC
    rw [if_pos (show op1.kind = 1 from rfl)]
    exact begin_zero rfl) op1_fit (op1_at w) (doc0 w)
  exact h
set_option maxRecDepth 100000 in
set_option maxHeartbeats 4000000 in
theorem awake_calls (w : World) : Calls Try.prog 36 #[] w fun e w' => e = .returned (.bool true) ∧ Ext w w' := by
  go_enter Try.func36, Try.ntmps36
  go_wp2_with fail
  refine (Tape.new_calls 99 w (by decide)).mono ?_
  rintro e w1 ⟨rfl, he1, ht1⟩
  obtain ⟨gp, hgp⟩ : ∃ gp, gp = w.heap.size := ⟨_, rfl⟩
  rw [← hgp] at ht1 ⊢
  have HGP := Lib.hid hgp
  have HE1 := Lib.hid he1
  have HT1 : Hid (Tape.Tape w1 (fun i => i = gp) gp [] 0 99) := Lib.hid ht1
  clear hgp he1 ht1
  go_wp2_with fail
  refine (open_calls gp 1 1 _ [] 0 99 [] _ w1 HT1.out (by simp) (Hist.nil 1 1) (fun o ho => by cases ho) (by rw [DiaryAwake.rec0]; rfl) (by simp) (by decide) (by decide) (by decide) (by decide)).mono ?_
  rintro e w2 ⟨gk, gd, gt, t, St, Sd, rfl, hb2, hg2, hc2, hs1, hs2, hgt, hgk⟩
  rw [DiaryAwake.rec0] at hb2
  have HB2 : Hid (BkAt w2 gk gd gt gp 1 1 t (fun i => St i ∧ Pl w2 i) (fun i => Sd i ∧ Pl w2 i) [] 0 99 [] 0) := Lib.hid (bk_plr (by simpa using hb2))
  have HG2 : Hid (Tbl.Good 1 1 t tb0) := Lib.hid hg2
  have HE2 := Lib.hid (HE1.out.chg hc2 fun i hi => by have hi : i = gp := hi; rw [hi, HGP.out]; exact Nat.le_refl _)
  have HF2 : Hid ((∀ i, Or2 (fun i => St i ∧ Pl w2 i) (fun i => Sd i ∧ Pl w2 i) i → w.heap.size ≤ i) ∧ w.heap.size ≤ gt) := Lib.hid ⟨fun i hi => by
    have hw := HE1.out.size
    rcases hi with hi | hi
    · rcases hs1 i hi.1 with k | k
      · have k : i = gp := k
        rw [k, HGP.out]
        exact Nat.le_refl _
      · omega
    · have := hs2 i hi.1
      omega, Nat.le_trans HE1.out.size hgt⟩
  clear hb2 hg2 hc2 hs1 hs2 hgt hgk HT1 HE1
  go_wp2_with fail
  refine (do_calls gk gd gt gp 1 1 t tb0 _ _ [] 0 99 [] 0 op1 w2 HB2.out HG2.out (op1_at w2) (by decide) (by decide) (by simp) (by simp) (fun i hi => hi.elim (fun k => k.2) fun k => k.2) rows_none).mono ?_
  rintro e w3 ⟨code, rfl, _, hyes⟩
  have hz : applyC 1 1 t op1 = 0 := by
    unfold applyC
    rw [if_pos (show op1.kind = 1 from rfl)]
    exact begin_zero (by rw [HG2.out.both.eqv.nx]; rfl)
  obtain ⟨_, hyes⟩ := hyes hz
  have hl5 := op1_len
  rcases hyes with ⟨hfull, _, _⟩ | ⟨_, rfl, St3, Sd3, t3, w0, hb3, hr3, hc3, hg3⟩
  · rw [hl5] at hfull
    simp at hfull
  have hfr : ([] ++ frame (((([] : List (List Int)).length : Nat) : Int) + 1) (opB op1) : List Int) = frames 0 [opB op1] := by simp [frames]
  rw [hfr] at hb3
  have HB3 := Lib.hid hb3
  have HE3 := Lib.hid (HE2.out.chg hc3 fun i hi => hi.elim (fun k => HF2.out.1 i k) fun k => by rw [k]; exact HF2.out.2)
  have HF3 : Hid (∀ i, Or2 St3 Sd3 i → w.heap.size ≤ i) := Lib.hid fun i hi => (hg3 i hi).elim (HF2.out.1 i) fun k => Nat.le_trans HE2.out.size k
  have HFL : Hid ((frames 0 [opB op1]).length = 25) := Lib.hid (by
    rw [← hfr, List.nil_append, DiaryP.frame_length, hl5])
  clear hb3 hc3 hg3 hr3 hz hl5 hfr HB2 HG2 HE2 HF2
  go_wp2_with fail
  refine (Tape.crash_calls St3 gp _ _ 99 0 0 w3 HB3.out.b.t (by decide) (by decide) (by rw [HFL.out]; omega)).mono ?_
  rintro e w4 ⟨rfl, S4, ht4, hs4⟩
  rw [crash_all] at ht4
  have HT4 := Lib.hid ht4
  have HX4 := Lib.hid (fresh_step HE3.out (fun i hi => HF3.out i (.inl hi)) hs4)
  generalize hlost : (((frames 0 [opB op1]).length - (frames 0 [opB op1]).length : Nat) : Int) - _ = lost at *
  clear ht4 hs4 HB3 HE3 HF3 hlost
  go_wp2_with fail
  refine (open_calls gp 1 1 S4 _ _ 99 [norm op1] _ w4 HT4.out (by rw [HFL.out]; omega) (hist1 w4) (fun o ho => by
    have : o = norm op1 := by simpa using ho
    subst this
    rfl) (by rw [records_all _ (fun r hr => by
      have : r = opB op1 := by simpa using hr
      subst this
      exact opB_fine op1_fit (by decide)) (by simp)]; rw [List.map_cons, List.map_nil, norm_bytes]) (by simp) (by decide) (by decide) (by decide) (by decide)).mono ?_
  rintro e w5 ⟨gk5, gd5, gt5, t5, St5, Sd5, rfl, hb5, hg5, hc5, _⟩
  have HB5 := Lib.hid hb5
  have hnx : t5.nx = 2 := hg5.both.eqv.nx
  have HX5 := Lib.hid (HX4.out.1.chg hc5 HX4.out.2)
  clear hb5 hg5 hc5 HT4 HX4
  go_wp2_with fail
  refine (table_calls gk5 gd5 gt5 gp 1 1 t5 St5 Sd5 _ _ _ _ _ w5 HB5.out).mono ?_
  rintro e w6 ⟨rfl, he6⟩
  have HX6 := Lib.hid (HX5.out.trans he6)
  have HT6 := Lib.hid (HB5.out.tb.ext he6)
  clear he6
  go_wp2_with fail
  refine (next_calls gt5 1 1 t5 w6 HT6.out).mono ?_
  rintro e w7 ⟨rfl, rfl⟩
  rw [hnx]
  go_wp2_with fail
  go_ret
  exact ⟨rfl, HX6.out⟩
set_option maxRecDepth 100000 in
set_option maxHeartbeats 4000000 in
/-- BookNobody, walked. -/
theorem nobody_row (slots nodes : Int) (A : Option Addr) (n c : Nat) (l : List Int) (w : World) (h0 : (Lit.int .i64 slots).wf = true) (h1 : (Lit.int .i64 nodes).wf = true) (h : Rd w .u8 A n l) (hs : n * 1 ≤ 140737488351232) :
    Calls Try.prog 7 #[.int .i64 slots, .int .i64 nodes, .slice A n c] w fun e w' => e = .returned (.bool true) ∧ Ext w w' := by
  clear h h0 h1
  go_enter Try.func7, Try.ntmps7
  go_wp2_with fail
  refine (awake_calls w).mono ?_
  rintro e w1 ⟨rfl, he1⟩
  have HE1 := Lib.hid he1
  clear he1
  by_cases hn : 300 < n
  · go_wp2_with fail
    refine (awake_calls w1).mono ?_
    rintro e w2 ⟨rfl, he2⟩
    have HE2 := Lib.hid (HE1.out.trans he2)
    clear he2
    go_wp2_with fail
    go_ret
    exact ⟨rfl, HE2.out⟩
  go_wp2_with fail
  refine (Tape.new_calls 99 w1 (by decide)).mono ?_
  rintro e w2 ⟨rfl, he2, ht2⟩
  obtain ⟨gp, hgp⟩ : ∃ gp, gp = w1.heap.size := ⟨_, rfl⟩
  rw [← hgp] at ht2 ⊢
  have HGP := Lib.hid hgp
  have HE2 := Lib.hid (HE1.out.trans he2)
  have HE12 := Lib.hid he2
  have HT2 : Hid (Tape.Tape w2 (fun i => i = gp) gp [] 0 99) := Lib.hid ht2
  clear hgp he2 ht2
  by_cases hok : 1 ≤ slots ∧ slots ≤ 24 ∧ 1 ≤ nodes ∧ nodes ≤ 32
  case' pos =>
    obtain ⟨sl, hsl⟩ := Int.eq_ofNat_of_zero_le (show 0 ≤ slots by omega)
    obtain ⟨nd, hnd⟩ := Int.eq_ofNat_of_zero_le (show 0 ≤ nodes by omega)
    subst hsl hnd
    obtain ⟨b1, b2, b3, b4⟩ := hok
    go_wp2_with fail
    refine (open_calls gp sl nd _ [] 0 99 [] _ w2 HT2.out (by simp) (Hist.nil sl nd) (fun o ho => by cases ho) (by rw [DiaryAwake.rec0]; rfl) (by simp) (by omega) (by omega) (by omega) (by omega)).mono ?_
    rintro e w3 ⟨gk, gd, gt, t, St, Sd, rfl, _, _, hc3, _⟩
    have HE3 : Hid (Ext w w3) := Lib.hid (HE2.out.chg hc3 fun i hi => by have hi : i = gp := hi; rw [hi, HGP.out]; exact HE1.out.size)
    clear hc3 HT2 HE12
  case' neg =>
    go_wp2_with fail
    refine (open_bad _ slots nodes w2 hok).mono ?_
    rintro e w3 ⟨rfl, he3⟩
    have HE3 := Lib.hid (HE2.out.trans he3)
    clear he3 HT2 HE12
    have hcs : slots < 1 ∨ (1 ≤ slots ∧ (24 < slots ∨ (slots ≤ 24 ∧ (nodes < 1 ∨ (1 ≤ nodes ∧ 32 < nodes))))) := by omega
    clear hok
    rcases hcs with hcs | ⟨q1, hcs | ⟨q2, hcs | ⟨q3, hcs⟩⟩⟩
  all_goals
    go_wp2_with fail
    refine (open_nil w3).mono ?_
    rintro e w4 ⟨rfl, he4⟩
    have HE4 := Lib.hid (HE3.out.trans he4)
    clear he4
    go_wp2_with fail
    refine (table_nil w4).mono ?_
    rintro e w5 ⟨rfl, he5⟩
    have HE5 := Lib.hid (HE4.out.trans he5)
    clear he5
    go_wp2_with fail
    refine (len_nil w5).mono ?_
    rintro e w6 ⟨rfl, he6⟩
    have HE6 := Lib.hid (HE5.out.trans he6)
    clear he6
    go_wp2_with fail
    refine (write_nil op0 w6).mono ?_
    rintro e w7 ⟨rfl, he7⟩
    have HE7 := Lib.hid (HE6.out.trans he7)
    clear he7
    go_wp2_with fail
    refine (do_nil op0 w7).mono ?_
    rintro e w8 ⟨rfl, he8⟩
    have HE8 := Lib.hid (HE7.out.trans he8)
    clear he8
    go_wp2_with fail
    refine (awake_calls w8).mono ?_
    rintro e w9 ⟨rfl, he9⟩
    have HE9 := Lib.hid (HE8.out.trans he9)
    clear he9
    go_wp2_with fail
    go_ret
    exact ⟨rfl, HE9.out⟩
end Go.Proofs.Ytipmkddcdnbihaa.Bk
/- BookNobody: the law's Go function returns true for every input, and leaves each argument as it was. No condition beyond the row's own reach. -/
namespace Go.Proofs.Ytipmkddcdnbihaa.bookNobodyRow
open Go.ChangeShapes Go.WideShapes Go.ChangeAt Go.RowKit Base
open Go.ChangeMaps (open_string shut_string)
theorem own : ownKnob Try.prog.godebug = none := by kernel_rfl
theorem laidOut : laidOutB Try.prog = true := by kernel_rfl
set_option maxRecDepth 100000 in
theorem lifted (os : Os) (started : os.Started) (H : Type) (enc : TypeId × Value → H) :
    ReturnsInHanded {} Try.checked os 7 .any (Rows.bookNobodySpec.pre6 enc Try.prog Try.f7 Rows.bookNobodyRow.domain false) (Rows.bookNobodySpec.post enc Try.prog Try.f7 false true false false) := by
  refine returnsInHanded_of_change_sized (C := Try.checked) own started (by kernel_rfl) Try.func7
    (ChangeSpec.witness6 (enc := enc) (C := Try.checked) false ⟨#[], #[.int .i64 0, .int .i64 0, .slice none 0 0], []⟩ 8 (by kernel_rfl) (by kernel_rfl) (by kernel_rfl) (by kernel_rfl)) ?_
  intro W base args ds gs before hval0 hW hcnd hsz0 _
  have hsz : (DataW.weightsEach Try.prog (Try.f7.params.toList ++ Rows.bookNobodySpec.plain.varTypes Try.prog) (ds ++ gs)).all (· ≤ reachBytes) = true := hsz0
  have hval : ∀ (j : Nat) t v, Try.f7.params[j]? = some t → args[j]? = some v → Value.okWide Try.prog W .any base t v := hval0
  have hW' := hW
  obtain ⟨p, q, hA0, hV, rfl, hfz, hnd⟩ := hW
  have hA : DataW.TrodAll enc Try.prog W 0 (fun _ => true) true Try.f7.params.toList args.toList ds p := hA0
  rw [Try.params7] at hA hval hsz
  obtain ⟨v0, vs0, d0, ds0, p0, q0, hargs, rfl, rfl, h0, r0⟩ := trodAll_cons hA
  obtain ⟨v1, vs1, d1, ds1, p1, q1, rfl, rfl, rfl, h1, r1⟩ := trodAll_cons r0
  obtain ⟨v2, vs2, d2, ds2, p2, q2, rfl, rfl, rfl, h2, r2⟩ := trodAll_cons r1
  obtain ⟨rfl, rfl, rfl⟩ := trodAll_nil r2
  obtain rfl : args = #[v0, v1, v2] := by cases args; simp_all
  obtain ⟨rfl, rfl⟩ := trodVars_none hV
  obtain ⟨a0, rfl, rfl, rfl, w0⟩ := open_int Try.underlying3 (hval 0 3 v0 rfl rfl) h0
  obtain ⟨a1, rfl, rfl, rfl, w1⟩ := open_int Try.underlying3 (hval 1 3 v1 rfl rfl) h1
  obtain ⟨a2, len2, cap2, rfl⟩ := okWide_slice Try.underlying55 (hval 2 55 v2 rfl rfl)
  have k2 := h2
  have lt2 : ∀ x ∈ p2, x.block < W.heap.size := by obtain ⟨m, hm⟩ := k2; exact DataW.trod_lt m _ _ _ hm
  obtain ⟨z2, w2, cp2⟩ := rd_of_trod (k := .u8) Try.underlying55 Try.underlying5 (by kernel_rfl) h2
  have y2 : len2 * 1 ≤ 140737488351232 := sized_of_trod hsz (j := 2) (t := 55) rfl rfl Try.underlying55 Try.underlying5 (by kernel_rfl) (by kernel_rfl) h2
  clear hA0 hval0 hsz0 hsz
  refine (Bk.nobody_row a0 a1 a2 len2 cap2 z2 W w0 w1 w2 y2).mono fun e W' ⟨he, bel⟩ => ?_
  subst he
  exact ⟨_, rfl, _, _, _, [], _, [], hW', trodAll_mk1 (shut_bool Try.underlying4 _), (trodAll_cons_mk (shut_int Try.underlying3 w0) (trodAll_cons_mk (shut_int Try.underlying3 w1) (trodAll_cons_mk (Below.trod laidOut (by kernel_rfl) (of_decide_eq_true (by kernel_rfl)) k2 bel lt2) trodAll_mk0))), rfl, bel.frame _, fun h => by cases h⟩
theorem over : Rows.bookNobodyRow.holds Try.pinned (OpenSpec.ofChange Rows.bookNobodySpec) :=
  OpenClaim.holds_of_wide 7 Try.f7 rfl rfl rfl rfl rfl rfl rfl ⟨rfl, rfl, rfl, rfl, rfl⟩ rfl rfl rfl rfl rfl (by kernel_rfl) Try.func7 (by kernel_rfl)
    (of_decide_eq_true (by kernel_rfl)) (by unfold Func.isWrapper; first | (rw [if_pos (by decide +kernel)]; kernel_rfl) | (rw [if_neg (by decide +kernel)]; exact ⟨rfl, rfl⟩))
    (fun os started H enc _ => lifted os started H enc)
end Go.Proofs.Ytipmkddcdnbihaa.bookNobodyRow
namespace Go.Proofs.Ytipmkddcdnbihaa
/-- The row of BookNobody. -/
theorem bookNobody_holds : Rows.BookNobodySaid := bookNobodyRow.over
#print axioms bookNobody_holds
end Go.Proofs.Ytipmkddcdnbihaa
