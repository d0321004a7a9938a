/- A shard's cell written, and read, walked. -/
import Derived.Test.YtipmkddcdnbihaaVaultD
import Derived.Test.YtipmkddcdnbihaaDiaryRec
namespace Go.Proofs.Ytipmkddcdnbihaa.Vault
open Go.RowKit Base Step
open VaultP (Sh shOf nameB cellOf readV Whole)
open Frm
set_option maxRecDepth 100000 in
set_option maxHeartbeats 4000000 in
theorem vframe_calls (s : Sh) (A : Option Addr) (n c : Nat) (ys : List Int) (w : World) (hs : s.Ok) (hr : Rd w .u8 A n ys) (hn : n ≤ 60000) :
    Calls Try.prog 131 #[shV s, .slice A n c] w fun e w' => ∃ A' c', e = .returned (.slice A' (24 + n) c') ∧ New w w' 5 1 A' (24 + n) c' (nums .u8 (cellOf s ys)) ∧ Ext w w' := by
  have HR := Lib.hid hr
  have HS := Lib.hid hs
  have HL := hr.len
  clear hr hs
  go_enter Try.func131, Try.ntmps131
  go_wp2_with fail
  refine (wshard_calls (fun i => w.heap.size ≤ i) (w.heap.size + 1) [] s _ HS.out (by intro i hi; simp at hi; omega) (by have := Pack.writer_new (fun i => w.heap.size ≤ i) (w.alloc (.cells #[.int .u32 s.o, .int .u16 s.st, .int .u16 s.sl, .int .u32 s.g] 111)) (by simp); simpa using this) (by simp)).mono ?_
  rintro e w1 ⟨rfl, hw1, hc1⟩
  have HC1 := Lib.hid (((Chg.refl (fun i => w.heap.size ≤ i) w).alloc (.cells #[.int .u32 s.o, .int .u16 s.st, .int .u16 s.sl, .int .u32 s.g] 111)).alloc (.cells #[.slice none 0 0] 190) |>.trans hc1)
  have HW1 := Lib.hid hw1
  clear hw1 hc1
  go_wp2_with fail
  refine (Pack.wraw_calls (fun i => w.heap.size ≤ i) (w.heap.size + 1) _ A n c ys _ (fun i hi => Nat.le_trans HC1.out.size hi) HW1.out (HR.out.below HC1.out.below) (by simp [VaultP.nameB_length]) (by omega)).mono ?_
  rintro e w2 ⟨rfl, hw2, hc2⟩
  have HC2 := Lib.hid (HC1.out.trans hc2)
  have HW2 := Lib.hid hw2
  clear hw2 hc2
  go_wp2_with fail
  refine (Pack.bytes_calls (fun i => w.heap.size ≤ i) (w.heap.size + 1) _ _ HW2.out (by simp [VaultP.nameB_length]; omega)).mono ?_
  rintro e w3 ⟨A3, c3, rfl, ho3, hb3⟩
  have HC3 := Lib.hid (HC2.out.trans (Below.chg hb3))
  have hlen : ([] ++ nameB s ++ ys).length = 12 + n := by simp [VaultP.nameB_length, HL]
  have ho4 := ho3.rd HW2.out.wf
  rw [hlen] at ho4
  rw [hlen]
  have HO3 := Lib.hid ho4
  clear ho3 hb3 ho4
  go_wp2_with fail
  refine (SealFrame.frame_calls 1 A3 _ c3 _ _ (by decide) (by decide) HO3.out (by omega)).mono ?_
  rintro e w4 ⟨A4, c4, rfl, ho4, hb4⟩
  rw [show 12 + (12 + n) = 24 + n by omega, List.nil_append] at ho4
  rw [show 12 + (12 + n) = 24 + n by omega]
  have HO4 := Lib.hid ho4
  have HC4 := Lib.hid (HC3.out.trans (Below.chg hb4))
  have HS3 := Lib.hid HC3.out.size
  clear ho4 hb4
  go_wp2_with fail
  go_ret
  exact ⟨A4, c4, rfl, HO4.out.mono fun i _ k => Nat.le_trans HS3.out k, HC4.out.below⟩
/-- What a cell's reading tells: 21: it has no form; 22: it is turned. -/
noncomputable def codeV (xs : List Int) : Int := by classical exact if Whole xs then 0 else if form xs ∧ ¬ good xs then 22 else 21
theorem code_form {xs : List Int} (h : ¬ form xs) : codeV xs = 21 ∧ readV xs = none := by
  unfold codeV
  rw [if_neg fun k => h k.form, if_neg fun k => h k.1]
  exact ⟨rfl, VaultP.readV_no fun k => h k.form⟩
theorem code_good {xs : List Int} (h : form xs) (hg : ¬ good xs) : codeV xs = 22 ∧ readV xs = none := by
  unfold codeV
  rw [if_neg fun k => hg k.good, if_pos ⟨h, hg⟩]
  exact ⟨rfl, VaultP.readV_no fun k => hg k.good⟩
theorem code_part {xs : List Int} (hg : good xs) (h : ¬ Whole xs) : codeV xs = 21 ∧ readV xs = none := by
  unfold codeV
  rw [if_neg h, if_neg fun k => k.2 hg]
  exact ⟨rfl, VaultP.readV_no h⟩
theorem code_whole {xs : List Int} (h : Whole xs) : codeV xs = 0 := by
  unfold codeV
  rw [if_pos h]
/-- A struct and two results more. -/
theorem results_cell_tmp2 {P : Program} {fn : Func} {p q r : Tmp} {ty : TypeId} (h : fn.results = #[.cell p ty, .tmp q, .tmp r]) (tmps : Array Value) (w : World) (g : Nat) (t : TypeId) (cs : Array Value) (fr : Nat × Nat) (d : TypeDesc)
    (hp : tmps.getD p undef = .pointer (some ⟨g, 0, none⟩)) (hg : w.heap[g]? = some (.cells cs t fr))
    (hu : P.underlying ty = some d) (hd : (match d with | .struct _ | .array _ _ => true | _ => false) = true) (hi : (P.info? ty).map (·.size) = some cs.size) :
    (results fn tmps).run P w = .ok (.tuple #[.agg cs, tmps.getD q undef, tmps.getD r undef]) w := by
  have hp' : tmps[p]?.getD undef = .pointer (some ⟨g, 0, none⟩) := by simpa using hp
  simp [results, h, hp', asAddr, run_loadVar_row w g t ty cs fr d hg hu hd hi]
set_option maxRecDepth 100000 in
set_option maxHeartbeats 1000000 in
theorem vread_calls (A : Option Addr) (n c : Nat) (xs : List Int) (w : World) (hr : Rd w .u8 A n xs) (hc : n ≤ c) (h0 : A = none → c = 0) (hn : n ≤ 60000) :
    Calls Try.prog 125 #[.slice A n c] w fun e w' => Ext w w' ∧ ((readV xs = none ∧ (∃ r, r = codeV xs ∧ (r = 21 ∨ r = 22) ∧ e = .returned (.tuple #[shV ⟨0, 0, 0, 0⟩, .slice none 0 0, .int .i64 r]))) ∨
      ∃ s b A' c', readV xs = some (s, b) ∧ e = .returned (.tuple #[shV s, .slice A' b.length c', .int .i64 0]) ∧ New w w' 5 1 A' b.length c' (nums .u8 b) ∧ codeV xs = 0) := by
  have HR := Lib.hid hr
  have H0 := Lib.hid h0
  have hb0 := at_new w (.cells #[.int .u32 0, .int .u16 0, .int .u16 0, .int .u32 0] 111)
  have HE0 := Lib.hid (Ext.new w (.cells #[.int .u32 0, .int .u16 0, .int .u16 0, .int .u32 0] 111))
  clear hr h0
  go_enter Try.func125, Try.ntmps125
  go_wp2_with fail
  refine (SealOpen.open_calls A n c xs _ ?_ hc H0.out (by omega)).mono ?_
  · exact HR.out.ext (Ext.new _ _)
  rintro e w1 ⟨hb1, h1⟩
  have hB1 := Ext.at_ hb1 hb0
  have HE1 := Lib.hid (HE0.out.trans hb1)
  clear hb0 hb1
  rcases h1 with ⟨hf, rfl⟩ | ⟨hf, hg, rfl⟩ | ⟨hf, hg, A1, c1, rfl, ho1⟩
  · obtain ⟨k1, k2⟩ := code_form hf
    go_wp2_with (refine RowSt.wpList_put 111 _ _ rfl rfl rfl w.heap.size #[.int .u32 0, .int .u16 0, .int .u16 0, .int .u32 0] rfl rfl 111 _ hB1 (by kernel_rfl) rfl (by simp [Value.oneCell']) ?_; intro w8 hb8 hc8)
    refine bodyPost_ret (v := .tuple #[shV ⟨0, 0, 0, 0⟩, .slice none 0 0, .int .i64 21]) (results_cell_tmp2 (p := 2) (q := 3) (r := 4) rfl _ _ w.heap.size 111 _ (0, 0) _ rfl hb8 Try.underlying111 rfl (by kernel_rfl)) rfl ?_
    exact ⟨HE1.out.chg hc8 fun i h => by have h : i = w.heap.size := h; omega, .inl ⟨k2, 21, k1.symm, .inl rfl, rfl⟩⟩
  · obtain ⟨k1, k2⟩ := code_good hf hg
    go_wp2_with (refine RowSt.wpList_put 111 _ _ rfl rfl rfl w.heap.size #[.int .u32 0, .int .u16 0, .int .u16 0, .int .u32 0] rfl rfl 111 _ hB1 (by kernel_rfl) rfl (by simp [Value.oneCell']) ?_; intro w8 hb8 hc8)
    refine bodyPost_ret (v := .tuple #[shV ⟨0, 0, 0, 0⟩, .slice none 0 0, .int .i64 22]) (results_cell_tmp2 (p := 2) (q := 3) (r := 4) rfl _ _ w.heap.size 111 _ (0, 0) _ rfl hb8 Try.underlying111 rfl (by kernel_rfl)) rfl ?_
    exact ⟨HE1.out.chg hc8 fun i h => by have h : i = w.heap.size := h; omega, .inl ⟨k2, 22, k1.symm, .inr rfl, rfl⟩⟩
  · have hu : Le.U8s xs := fun x hx => wf_u8 (HR.out.wf x hx)
    have hb := Le.of_take_bound (n := (xs.drop 4).length) (drop_u8 hu 4) rfl (j := 4) (by rw [List.length_drop]; have := hf.1; omega)
    obtain ⟨N, hN⟩ : ∃ N : Nat, nOf xs = N := ⟨(nOf xs).toNat, (Int.toNat_of_nonneg hb.1).symm⟩
    have hN2 : (N : Int) ≤ 65536 := by have := hf.2.2.1; omega
    clear hb hu
    have hl : (loadOf xs).length = N := by have := ho1.row.1; rw [hN] at this; simpa [nums] using this
    have FU : Hid (Le.U8s (loadOf xs)) := Lib.hid fun x hx => wf_u8 (HR.out.wf x (List.mem_of_mem_drop (List.mem_of_mem_take hx)))
    rw [hN] at ho1 ⊢
    rw [Int.toNat_natCast] at ho1 ⊢
    have HO1 := Lib.hid ho1
    have HG := Lib.hid hg
    have HF := Lib.hid hf
    have HNN := Lib.hid hN
    have hN3 : N ≤ 65536 := by omega
    clear ho1 hN2
    have hk : ¬ kOf xs = 1 ∨ kOf xs = 1 := (Decidable.em _).symm
    rcases hk with hk | hk
    · obtain ⟨k1, k2⟩ := code_part hg (fun k => hk k.kind)
      clear hg hf hN
      go_wp2_with (refine RowSt.wpList_put 111 _ _ rfl rfl rfl w.heap.size #[.int .u32 0, .int .u16 0, .int .u16 0, .int .u32 0] rfl rfl 111 _ hB1 (by kernel_rfl) rfl (by simp [Value.oneCell']) ?_; intro w8 hb8 hc8)
      refine bodyPost_ret (v := .tuple #[shV ⟨0, 0, 0, 0⟩, .slice none 0 0, .int .i64 21]) (results_cell_tmp2 (p := 2) (q := 3) (r := 4) rfl _ _ w.heap.size 111 _ (0, 0) _ rfl hb8 Try.underlying111 rfl (by kernel_rfl)) rfl ?_
      exact ⟨HE1.out.chg hc8 fun i h => by have h : i = w.heap.size := h; omega, .inl ⟨k2, 21, k1.symm, .inl rfl, rfl⟩⟩
    rw [hk]
    by_cases h12 : N < 12
    · obtain ⟨k1, k2⟩ := code_part hg (fun k => by have := k.load; omega)
      clear hg hf hN
      go_wp2_with (refine RowSt.wpList_put 111 _ _ rfl rfl rfl w.heap.size #[.int .u32 0, .int .u16 0, .int .u16 0, .int .u32 0] rfl rfl 111 _ hB1 (by kernel_rfl) rfl (by simp [Value.oneCell']) ?_; intro w8 hb8 hc8)
      refine bodyPost_ret (v := .tuple #[shV ⟨0, 0, 0, 0⟩, .slice none 0 0, .int .i64 21]) (results_cell_tmp2 (p := 2) (q := 3) (r := 4) rfl _ _ w.heap.size 111 _ (0, 0) _ rfl hb8 Try.underlying111 rfl (by kernel_rfl)) rfl ?_
      first
        | exact ⟨HE1.out.chg hc8 fun i h => by have h : i = w.heap.size := h; omega, rfl⟩
        | exact ⟨HE1.out.chg hc8 fun i h => by have h : i = w.heap.size := h; omega, .inl ⟨k2, 21, k1.symm, .inl rfl, rfl⟩⟩
    by_cases ha : 12 + N = n
    · have hw : Whole xs := ⟨hf, hg, hk, by omega, by rw [hN]; have := HR.out.len; omega⟩
      clear hg hf hN
      subst ha
      have k1 := Lib.hid (code_whole hw)
      have k2 := Lib.hid (VaultP.readV_yes hw)
      have hR1 := HO1.out.rd fun x hx => u8_wf (FU.out x hx).1 (FU.out x hx).2
      have HR1 := Lib.hid hR1
      have HCAP := Lib.hid HO1.out.cap
      clear hw hR1
      go_wp2_with fail
      refine (Pack.read_calls A1 N c1 (loadOf xs) _ HR1.out HCAP.out.1 HCAP.out.2).mono ?_
      rintro e w2 ⟨rfl, hr2, hb2⟩
      have HR2 := Lib.hid hr2
      have hE2 : Ext w1 w2 := hb2
      have hB2 := hE2.at_ hB1
      have HE2 := Lib.hid hE2
      have hg2 : w.heap.size < w1.heap.size := Pack.lt_of_at hB1
      clear hr2 hb2 hE2
      go_wp2_with fail
      refine (rshard_calls w1.heap.size (loadOf xs) w2 HR2.out (by omega) FU.out (by omega)).mono ?_
      rintro e w3 ⟨rfl, hr3, hc3⟩
      have hB3 := hc3.at_ hB2 (by omega)
      have HR3 := Lib.hid hr3
      have HE3 := Lib.hid (HE2.out.chg hc3 (fun i h => by have h : i = w1.heap.size := h; omega))
      clear hr3 hc3
      obtain ⟨sh, hsh⟩ : ∃ sh, sh = shOf (loadOf xs) := ⟨_, rfl⟩
      rw [← hsh] at k2 ⊢
      clear hsh
      go_wp2_with fail
      refine (DiaryRec.rest_calls w1.heap.size _ _ w3 HR3.out (by rw [List.length_drop]; omega)).mono ?_
      rintro e w4 ⟨A4, c4, rfl, ho4, hc4⟩
      have hB4 := hc4.at_ hB3 (by omega)
      have HO4 := Lib.hid ho4
      have HE4 := Lib.hid (HE3.out.chg hc4 (fun i h => by have h : i = w1.heap.size := h; omega))
      have HS3 := Lib.hid HE3.out.size
      have hl4 : ((loadOf xs).drop 12).length = N - 12 := by rw [List.length_drop, hl]
      rw [hl4] at HO4 ⊢
      clear ho4 hc4 hB1 hB2 hB3
      go_wp2_with (refine RowSt.wpList_put 111 _ _ rfl rfl rfl w.heap.size #[.int .u32 sh.o, .int .u16 sh.st, .int .u16 sh.sl, .int .u32 sh.g] rfl rfl 111 _ hB4 (by kernel_rfl) rfl (by simp [Value.oneCell']) ?_; intro w8 hb8 hc8)
      refine bodyPost_ret (v := .tuple #[shV sh, .slice A4 (N - 12) c4, .int .i64 0]) (results_cell_tmp2 (p := 2) (q := 3) (r := 4) rfl _ _ w.heap.size 111 _ (0, 0) _ rfl hb8 Try.underlying111 rfl (by kernel_rfl)) rfl ?_
      refine ⟨(HE1.out.trans HE4.out).chg hc8 fun i h => by have h : i = w.heap.size := h; omega, .inr ⟨sh, _, A4, c4, k2.out, by rw [hl4], ?_, k1.out⟩⟩
      rw [hl4]
      have h5 := HO4.out.chg hc8 (fun i h k => by have h : w3.heap.size ≤ i := h; have k : i = w.heap.size := k; have := HS3.out; omega)
      exact h5.mono fun i _ h => by have h : w3.heap.size ≤ i := h; show w.heap.size ≤ i; have := HS3.out; omega
    · obtain ⟨k1, k2⟩ := code_part hg (fun k => by have := k.all; have := HR.out.len; omega)
      have ha1 : (12 + (N : Int) != n) = true := by simp [bne]; omega
      clear hg hf hN ha
      go_wp2_with (refine RowSt.wpList_put 111 _ _ rfl rfl rfl w.heap.size #[.int .u32 0, .int .u16 0, .int .u16 0, .int .u32 0] rfl rfl 111 _ hB1 (by kernel_rfl) rfl (by simp [Value.oneCell']) ?_; intro w8 hb8 hc8)
      refine bodyPost_ret (v := .tuple #[shV ⟨0, 0, 0, 0⟩, .slice none 0 0, .int .i64 21]) (results_cell_tmp2 (p := 2) (q := 3) (r := 4) rfl _ _ w.heap.size 111 _ (0, 0) _ rfl hb8 Try.underlying111 rfl (by kernel_rfl)) rfl ?_
      exact ⟨HE1.out.chg hc8 fun i h => by have h : i = w.heap.size := h; omega, .inl ⟨k2, 21, k1.symm, .inl rfl, rfl⟩⟩
end Go.Proofs.Ytipmkddcdnbihaa.Vault
