import Derived.Test.YtaohnialheccdaaTape
namespace Go.Proofs.Ytaohnialheccdaa.TapeKeepsW
open Go.RowKit Base Step Tape
open TapeP (kept crash turn)

theorem k2 : kept 2 3 = 2 := by decide
set_option maxRecDepth 100000 in
set_option maxHeartbeats 400000 in
theorem awake_calls (w : World) : Calls Try.prog 28 #[] w fun e w' => e = .returned (.bool true) ∧ Ext w w' := by
  have K2 := Lib.hid k2
  go_enter Try.func28, Try.ntmps28
  go_wp2_with fail
  refine (new_calls 5 _ (by decide)).mono ?_
  rintro e w1 ⟨rfl, he1, ht1⟩
  have hm : max (5 : Int) 0 = 5 := by decide
  rw [hm] at ht1
  clear hm
  go_wp2_with fail
  refine (append_calls _ _ [] 0 5 _ 3 3 [1, 2, 3] _ (ht1.ext (Ext.new w1 (.cells #[.int .u8 1, .int .u8 2, .int .u8 3] 5))) (rd_new w1 .u8 [1, 2, 3] _ _ _ rfl (by decide) (by decide)) (by decide) (by decide) (by decide)).mono ?_
  rintro e w2 ⟨rfl, S2, ht2, hs2⟩
  have hf := fresh_step (he1.alloc _) (fun i (hi : i = w.heap.size) => by omega) hs2
  clear hs2 ht1
  go_wp2_with fail
  refine (crash_calls _ _ _ 0 5 2 0 _ ht2 (by decide) (by decide) (by decide)).mono ?_
  rintro e w3 ⟨rfl, S3, ht3, hs3⟩
  have hf3 := fresh_step hf.1 hf.2 hs3
  have h1 : (((List.length ([] ++ [1, 2, 3] : List Int) - 0 : Nat) : Int) - (kept 2 (List.length ([] ++ [1, 2, 3] : List Int) - 0) : Nat)) = 1 := by show ((3 : Int) - (kept 2 3 : Nat)) = 1; rw [K2.out]; rfl
  rw [h1]
  clear h1 hs3 ht3 ht2
  go_wp2_with fail
  go_ret
  exact ⟨rfl, hf3.1⟩

theorem crash_head (a b : List Int) (keep bits : Int) : (crash (a ++ b) a.length keep bits).take a.length = a := by
  have hl : (a ++ b).length - a.length = b.length := by simp
  unfold crash
  rw [hl]
  split
  · rename_i h
    have hk := TapeP.kept_le keep b.length
    unfold turn
    rw [List.take_set_of_le (by rw [List.length_take, List.length_append]; omega), List.take_take, Nat.min_eq_left (by omega)]
    simp
  · rw [List.take_take, Nat.min_eq_left (by omega)]
    simp

set_option maxRecDepth 100000 in
set_option maxHeartbeats 1600000 in
theorem walk (A : Option Addr) (n c : Nat) (xs : List Int) (B : Option Addr) (m d : Nat) (ys : List Int) (keep bits : Int) (w : World) (h1 : Rd w .u8 A n xs) (_ : n * 1 ≤ 140737488351232) (h2 : Rd w .u8 B m ys) (_ : m * 1 ≤ 140737488351232) (hk : (Lit.int .i64 keep).wf = true) (hb : (Lit.int .u8 bits).wf = true) :
    Calls Try.prog 7 #[.slice A n c, .slice B m d, .int .i64 keep, .int .u8 bits] w fun e w' => e = .returned (.bool true) ∧ Below w.heap.size w w' := by
  have hm1 := h1.room
  have hm2 := h2.room
  have HK := Lib.hid hk
  have HB := Lib.hid hb
  have HL1 := Lib.hid h1.len
  have HL2 := Lib.hid h2.len
  clear hk hb
  by_cases hs1 : 500 < n
  · go_enter Try.func7, Try.ntmps7
    go_wp2_with fail
    refine (awake_calls _).mono ?_
    rintro e w1 ⟨rfl, he1⟩
    go_wp2_with fail
    refine (awake_calls _).mono ?_
    rintro e w2 ⟨rfl, he2⟩
    go_wp2_with fail
    go_ret
    exact ⟨rfl, he1.trans he2⟩
  by_cases hs2 : 500 < m
  · go_enter Try.func7, Try.ntmps7
    go_wp2_with fail
    refine (awake_calls _).mono ?_
    rintro e w1 ⟨rfl, he1⟩
    go_wp2_with fail
    refine (awake_calls _).mono ?_
    rintro e w2 ⟨rfl, he2⟩
    go_wp2_with fail
    go_ret
    exact ⟨rfl, he1.trans he2⟩
  go_enter Try.func7, Try.ntmps7
  go_wp2_with fail
  refine (awake_calls _).mono ?_
  rintro e w1 ⟨rfl, he1⟩
  go_wp2_with fail
  refine (new_calls 1000 _ (by decide)).mono ?_
  rintro e w2 ⟨rfl, he2, ht2⟩
  have hm : max (1000 : Int) 0 = 1000 := by decide
  rw [hm] at ht2
  clear hm
  have he02 := he1.trans he2
  go_wp2_with fail
  refine (append_calls _ _ [] 0 1000 A n c xs _ ht2 (h1.ext he02) (by simp) (by omega) (by simp; omega)).mono ?_
  rintro e w3 ⟨rfl, S3, ht3, hs3⟩
  have hf3 := fresh_step he02 (fun i (hi : i = w1.heap.size) => by subst hi; exact he1.size) hs3
  rw [List.nil_append] at ht3
  clear hs3 ht2
  go_wp2_with fail
  refine (sync_calls _ _ _ _ _ _ ht3).mono ?_
  rintro e w4 ⟨rfl, ht4, hs4⟩
  have hf4 := fresh_step hf3.1 hf3.2 hs4
  clear hs4 ht3 hf3
  go_wp2_with fail
  refine (append_calls _ _ _ _ _ B m d ys _ ht4 (h2.ext hf4.1) (by rw [HL1.out]; omega) (by omega) (by rw [HL1.out]; omega)).mono ?_
  rintro e w5 ⟨rfl, S5, ht5, hs5⟩
  have hf5 := fresh_step hf4.1 hf4.2 hs5
  clear hs5 ht4 hf4
  have hlen : (xs ++ ys).length = n + m := by rw [List.length_append, HL1.out, HL2.out]
  have HLEN := Lib.hid hlen
  go_wp2_with fail
  refine (crash_calls _ _ _ _ _ keep bits _ ht5 HK.out HB.out (by rw [hlen]; omega)).mono ?_
  rintro e w6 ⟨rfl, S6, ht6, hs6⟩
  have hf6 := fresh_step hf5.1 hf5.2 hs6
  have hd : (xs ++ ys).length - xs.length = m := by rw [HLEN.out, HL1.out]; omega
  rw [hd] at ht6 ⊢
  have hkl := TapeP.kept_le keep m
  have hcl : (crash (xs ++ ys) xs.length keep bits).length = n + kept keep m := by
    rw [TapeP.crash_length _ _ _ _ (by rw [HLEN.out, HL1.out]; omega), hd, HL1.out]
  have hch := crash_head xs ys keep bits
  rw [HL1.out] at ht6
  have HCL := Lib.hid hcl
  have HCH := Lib.hid hch
  clear hs6 ht5 hf5 hd hlen hcl hch
  generalize hN : kept keep m = N at *
  have HNN := Lib.hid hN
  clear hN
  rw [HL1.out] at HCL HCH
  generalize crash (xs ++ ys) n keep bits = zs at *
  go_wp2_with fail
  refine (read_calls _ _ _ _ _ _ ht6 (by rw [HCL.out]; omega)).mono ?_
  rintro e w7 ⟨he7, A7, c7, rfl, ho7⟩
  go_wp2_with fail
  refine (len_calls _ _ _ _ _ _ (ht6.ext he7)).mono ?_
  rintro e w8 ⟨rfl, he8⟩
  rw [HCL.out] at ho7 ⊢
  have hr7 := (ho7.extNew he8).rd ht6.wf
  have hcap7 := ho7.cap.1
  have he08 := (hf6.1.trans he7).trans he8
  have hr7n := rd_take hr7 (m := n) (by omega)
  rw [HCH.out] at hr7n
  have s7 : ∀ W, Ext w8.drew W → (convert 22 9 (.slice A7 n c7)).run Try.prog W = .ok (.string (strOfNums xs)) W := fun W h => run_string (P := Try.prog) 22 9 5 c7 Try.underlying22 Try.underlying5 Try.underlying9 (hr7n.ext (drew_ext h))
  have sx : ∀ W, Ext w8.drew W → (convert 22 9 (.slice A n c)).run Try.prog W = .ok (.string (strOfNums xs)) W := fun W h => run_string (P := Try.prog) 22 9 5 c Try.underlying22 Try.underlying5 Try.underlying9 ((h1.ext he08).ext (drew_ext h))
  have i0 : (0 : Int) ≤ n := by omega
  have i1 : (n : Int) ≤ c7 := by omega
  have i2 : ((n + N : Nat) : Int) ≤ c7 := by omega
  have w1' : IntKind.i64.wrap ((n : Int) + m) = n + m := IntWalk.i64_in _ (by omega)
  have w2' : IntKind.i64.wrap ((n : Int) + m - ((m : Int) - N)) = (n + N : Nat) := by rw [IntWalk.i64_in _ (by omega)]; omega
  go_wp2_with fail
  refine Lex.wp_region_ext [(43, .const (.bool true))] (by kernel_rfl) (by kernel_rfl) (by repeat (first | exact Lex.st_nil | refine Lex.st_cons (by first | exact Lex.nums_st | exact Lex.const_st | exact Lex.row_st) ?_)) ?_
  repeat (first | (refine Lex.lex_skip (by rfl) ?_; simp only [Act.put, List.setIfInBounds_toArray, List.set_cons_zero, List.set_cons_succ]) | (refine Lex.lex_still (by rfl) (by rfl) ?_; apply Exists.intro; refine ⟨fun W hW => ?_, ?_⟩; (have hE := hW.1; have hE2 := Base.Ext.trans (Base.Ext.drew (Base.Ext.refl _)) hW.1; go_simp; try with_reducible rfl); simp only [Act.put, List.setIfInBounds_toArray, List.set_cons_zero, List.set_cons_succ]))
  refine Lex.lex_loose (by rfl) (by rfl) (fun W hW => ?_) ?_
  · go_simp
    refine (awake_calls _).mono ?_
    rintro e w9 ⟨rfl, he9⟩
    exact ⟨_, rfl, rfl, he9, trivial⟩
  rintro v rfl
  simp only [Act.put, List.setIfInBounds_toArray, List.set_cons_zero, List.set_cons_succ]
  repeat (first | (refine Lex.lex_skip (by rfl) ?_; simp only [Act.put, List.setIfInBounds_toArray, List.set_cons_zero, List.set_cons_succ]) | (refine Lex.lex_still (by rfl) (by rfl) ?_; apply Exists.intro; refine ⟨fun W hW => ?_, ?_⟩; (have hE := hW.1; have hE2 := Base.Ext.trans (Base.Ext.drew (Base.Ext.refl _)) hW.1; go_simp; try with_reducible rfl); simp only [Act.put, List.setIfInBounds_toArray, List.set_cons_zero, List.set_cons_succ]))
  refine Lex.lex_nil (fun W hW => ?_)
  have HE := he08.trans (drew_ext hW.1)
  clear hW s7 sx
  go_wp2_with fail
  go_ret
  exact ⟨rfl, HE⟩
end Go.Proofs.Ytaohnialheccdaa.TapeKeepsW
