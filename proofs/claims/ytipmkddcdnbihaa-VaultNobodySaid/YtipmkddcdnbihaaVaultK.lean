/- The chapter's example of vaults, walked; which acts are light. -/
import Derived.Test.YtipmkddcdnbihaaVaultJ
import Derived.Test.YtipmkddcdnbihaaSpoil
import Derived.Lib.SlBytesConst
namespace Go.Proofs.Ytipmkddcdnbihaa.Vault
open Go.RowKit Base Step MapIs Vec
open VaultP (Sh shOf nameB cellOf readV Whole found)
open DiskP (readC puts)
theorem foundN_none {cells : List (List Int)} {loose : List (Int × List Int)} : ∀ {n : Nat}, (∀ i, i < n → readV (readC cells loose i) = none) → foundN cells loose n = []
  | 0, _ => rfl
  | n + 1, h => by rw [foundN_succ, h n (Nat.lt_succ_self n)]; exact foundN_none fun i hi => h i (by omega)
theorem readC_nil (cells : List (List Int)) (i : Nat) : readC cells [] i = cells.getD i [] := rfl
/-- The example's shard, and its cell, ahead and behind. -/
abbrev exS : Sh := ⟨1, 0, 0, 0⟩
def exC : List Int := cellOf exS [97, 98, 99]
def exX : List Int := Disk.spoilt exC 25 1
theorem exX_form : Frm.form exX := by decide +kernel
theorem exX_good : ¬ Frm.good exX := by decide +kernel
theorem exC_len : exC.length = 27 := by decide +kernel
theorem exC_at : exC.getD 25 0 = 98 := by decide +kernel
set_option maxRecDepth 100000 in
set_option maxHeartbeats 2000000 in
theorem awake_calls (w : World) : Calls Try.prog 65 #[] w fun e w' => e = .returned (.bool true) ∧ Ext w w' := by
  have kc := fun (w : World) (C : Array Value) (n c : Nat) => Lib.run_convert_bytes_const (P := Try.prog) w 55 5 C n c Try.underlying55 Try.underlying5
  go_enter Try.func65, Try.ntmps65
  go_wp2_with fail
  refine (Disk.new_calls 3 99 _ (by omega) (by omega) (by omega) (by omega)).mono ?_
  rintro e w1 ⟨gd, rfl, he1, hd1⟩
  have HX1 := Lib.hid he1
  have HD1 := Lib.hid hd1
  have HF1 := Lib.hid (show Fresh w (Plus (fun _ => False) w w1) from Plus.fresh (fun i hi => hi.elim) (Nat.le_refl _))
  generalize Plus (fun _ => False) w w1 = S1 at *
  clear he1 hd1
  go_wp2_with fail
  refine (open_calls S1 gd 99 _ [] 0 w1 HD1.out (by simp)).mono ?_
  rintro e w2 ⟨gv, gm, rfl, he2, hv2, hg1, hg2, hg3, hg4⟩
  have HX2 := Lib.hid (HX1.out.trans he2)
  have HD2 := Lib.hid (HD1.out.ext he2)
  have hfo : foundN (List.replicate 3 []) [] (List.replicate 3 ([] : List Int)).length = [] := foundN_none fun i hi => by
    rw [readC_nil]
    have : (List.replicate 3 ([] : List Int)).getD i [] = [] := by
      simp at hi
      rcases i with _ | _ | _ | i <;> first | rfl | omega
    rw [this]
    exact VaultP.readV_nil
  rw [hfo] at hv2
  have HV2 := Lib.hid hv2
  have n1 : ¬ S1 gv := fun k => by have := HD1.out.lt _ k; omega
  have n2 : ¬ S1 gm := fun k => by have := HD1.out.lt _ k; omega
  clear he2 hv2 hfo
  go_upto_region 4 with fail
  have hb3 := at_new w2 (.cells #[.int .u32 1, .int .u16 0, .int .u16 0, .int .u32 0] 111)
  have he3 := Ext.new w2 (.cells #[.int .u32 1, .int .u16 0, .int .u16 0, .int .u32 0] 111)
  generalize w2.alloc (.cells #[.int .u32 1, .int .u16 0, .int .u16 0, .int .u32 0] 111) = w3 at *
  have HB3 := Lib.hid hb3
  have HE3 := Lib.hid he3
  have b0 : w3.cell? ⟨w2.heap.size, 0, none⟩ = some (.int .u32 1) := blk_cell (i := 0) hb3 (Ext.refl _) rfl
  have b1 : w3.cell? ⟨w2.heap.size, 1, none⟩ = some (.int .u16 0) := blk_cell (i := 1) hb3 (Ext.refl _) rfl
  have b2 : w3.cell? ⟨w2.heap.size, 2, none⟩ = some (.int .u16 0) := blk_cell (i := 2) hb3 (Ext.refl _) rfl
  have b3 : w3.cell? ⟨w2.heap.size, 3, none⟩ = some (.int .u32 0) := blk_cell (i := 3) hb3 (Ext.refl _) rfl
  have hw3 : w2.heap.size ≤ w3.heap.size := he3.size
  have hw3b : w2.heap.size < w3.heap.size := Pack.lt_of_at hb3
  clear hb3 he3
  go_wp2_with fail
  have hx4 := (Ext.refl w3).alloc (.cells #[.int .u8 97, .int .u8 98, .int .u8 99] 5 (3, 4))
  have hr4 := rd_new w3 .u8 [97, 98, 99] #[.int .u8 97, .int .u8 98, .int .u8 99] 5 (3, 4) rfl (by simp) (by intro x hx; simp at hx; rcases hx with rfl | rfl | rfl <;> exact u8_wf (by omega) (by omega))
  refine (put_new S1 gv gm gd [] 99 _ [] 0 exS _ 3 3 [97, 98, 99] _ (HV2.out.ext (HE3.out.trans hx4)) (HD2.out.ext (HE3.out.trans hx4)) ?_ hr4 (by omega) (by simp) (by decide) 0 (by simp) (by intro j hj; omega) (by simp) (by simp) (by simp) (by simp) n1 n2 (by omega)).mono ?_
  · exact ⟨by decide, by decide, by decide, by decide, by decide, by decide, by decide, by decide⟩
  rintro e w5 ⟨rfl, hv5, hd5, hc5⟩
  have hs4 : w3.heap.size ≤ (w3.alloc (.cells #[.int .u8 97, .int .u8 98, .int .u8 99] 5 (3, 4))).heap.size := by simp
  have hX4 := HX2.out.trans (HE3.out.trans hx4)
  have hB4 := hx4.at_ HB3.out
  generalize w3.alloc (.cells #[.int .u8 97, .int .u8 98, .int .u8 99] 5 (3, 4)) = w4 at *
  have HX5 := Lib.hid (hX4.chg hc5 (fun i hi => hi.elim (HF1.out i) fun k => by have := HX1.out.size; omega))
  have hB5 := hc5.at_ hB4 (fun k => k.elim (fun k => by have := HD1.out.lt _ k; have := HX2.out; omega) fun k => by omega)
  have HF5 := Lib.hid (Plus.fresh (w' := w5) HF1.out hX4.size)
  have n3 : ¬ Plus S1 w4 w5 gv := fun k => k.elim n1 fun k => by omega
  have n4 : ¬ Plus S1 w4 w5 gm := fun k => k.elim n2 fun k => by omega
  have n5 : ¬ Plus S1 w4 w5 w2.heap.size := fun k => k.elim (fun k => by have := HD1.out.lt _ k; omega) fun k => by omega
  have hcl : puts (List.replicate 3 []) ([] ++ [(((0 : Nat) : Int), cellOf exS [97, 98, 99])]) = [exC, [], []] := rfl
  rw [hcl] at hd5
  have HV5 := Lib.hid (show VaultAt w5 gv gm gd [(exS, 0)] from hv5)
  have HD5 := Lib.hid hd5
  generalize Plus S1 w4 w5 = S5 at *
  have c0 : w5.cell? ⟨w2.heap.size, 0, none⟩ = some (.int .u32 1) := blk_cell (i := 0) hB5 (Ext.refl _) rfl
  have HB5 := Lib.hid hB5
  clear hv5 hd5 hc5 hX4 hx4 hr4 hB4 hB5 hcl b0 b1 b2 b3
  go_wp2_with fail
  refine (Disk.spoil_calls S5 gd 99 [exC, [], []] [] (0 + 1) w5 HD5.out 0 (by simp) 25 (by show 25 < exC.length; rw [exC_len]; omega) 1 (by decide) (by show (Lit.int .u8 (bits .xor .u8 (exC.getD 25 0) 1)).wf = true; rw [exC_at]; decide +kernel)).mono ?_
  rintro e w6 ⟨rfl, hd6, hc6⟩
  have HX6 := Lib.hid (HX5.out.chg hc6 HF5.out)
  have HV6 := Lib.hid (HV5.out.chg hc6 n3 n4)
  have hB6 := hc6.at_ HB5.out n5
  have HD6 := Lib.hid (show Disk.Disk w6 (Plus S5 w5 w6) gd 99 [exX, [], []] [] (0 + 1) from hd6)
  generalize Plus S5 w5 w6 = S6 at *
  have d0 : w6.cell? ⟨w2.heap.size, 0, none⟩ = some (.int .u32 1) := blk_cell (i := 0) hB6 (Ext.refl _) rfl
  have d1 : w6.cell? ⟨w2.heap.size, 1, none⟩ = some (.int .u16 0) := blk_cell (i := 1) hB6 (Ext.refl _) rfl
  have d2 : w6.cell? ⟨w2.heap.size, 2, none⟩ = some (.int .u16 0) := blk_cell (i := 2) hB6 (Ext.refl _) rfl
  have d3 : w6.cell? ⟨w2.heap.size, 3, none⟩ = some (.int .u32 0) := blk_cell (i := 3) hB6 (Ext.refl _) rfl
  obtain ⟨kx1, kx2⟩ := code_good exX_form exX_good
  have KX1 := Lib.hid kx1
  have KX2 := Lib.hid kx2
  clear hd6 hc6 hB6 c0 kx1 kx2
  go_wp2_with fail
  refine (get_calls S6 gv gm gd [(exS, 0)] 99 [exX, [], []] [] (0 + 1) exS w6 HV6.out HD6.out ⟨by decide, by decide, by decide, by decide, by decide, by decide, by decide, by decide⟩ (by simp) (by simp)).mono ?_
  rintro e w7 ⟨he7, h7⟩
  have HE7 : Hid (e = .returned (.tuple #[.slice none 0 0, .int .i64 22])) := Lib.hid (by
    rcases h7 with ⟨hm, _⟩ | ⟨c, hm, hg⟩
    · exact absurd (by simp) hm
    · simp only [List.mem_singleton, Prod.mk.injEq, true_and] at hm
      subst hm
      have hr : readC [exX, [], []] [] 0 = exX := rfl
      rw [hr] at hg
      rcases hg with ⟨_, hg⟩ | ⟨hg, _⟩ | ⟨hg, _⟩
      · rw [hg, KX1.out]
      · rw [KX1.out] at hg
        cases hg
      · rw [KX1.out] at hg
        cases hg)
  have he := HE7.out
  subst he
  have HX7 := Lib.hid (HX6.out.trans he7)
  have HD7 := Lib.hid (HD6.out.ext he7)
  clear h7 he7 HE7 d0 d1 d2 d3
  go_wp2_with fail
  refine (open_calls S6 gd 99 _ [] (0 + 1) w7 HD7.out (by simp)).mono ?_
  rintro e w8 ⟨gv8, gm8, rfl, he8, hv8, -⟩
  have hfo : foundN [exX, [], []] [] ([exX, [], []] : List (List Int)).length = [] := foundN_none fun i hi => by
    rw [readC_nil]
    simp at hi
    rcases i with _ | _ | _ | i
    · exact KX2.out
    · exact VaultP.readV_nil
    · exact VaultP.readV_nil
    · omega
  rw [hfo] at hv8
  have HX8 := Lib.hid (HX7.out.trans he8)
  clear hfo he8
  go_wp2_with fail
  refine (vlen_calls gv8 gm8 gd [] w8 hv8).mono ?_
  rintro e w9 ⟨rfl, rfl⟩
  go_wp2_with fail
  go_ret
  exact ⟨rfl, HX8.out⟩
end Go.Proofs.Ytipmkddcdnbihaa.Vault
