import Derived.Test.YtaohnialheccdaaPlatAwake
namespace Go.Proofs.Ytaohnialheccdaa.PlatterMakesW
open Go.RowKit Base Step Vec Disk Plat
open DiskP (readC over puts put1 cutN torn crash)
set_option maxRecDepth 100000 in
set_option maxHeartbeats 4000000 in
theorem walk (cells size : Int) (w : World) (hc : (Lit.int .i64 cells).wf = true) (hs : (Lit.int .i64 size).wf = true) :
    Calls Try.prog 13 #[.int .i64 cells, .int .i64 size] w fun e w' => e = .returned (.bool true) ∧ Ext w w' := by
  obtain ⟨hc0, hc1⟩ := wf_i64 hc
  obtain ⟨hs0, hs1⟩ := wf_i64 hs
  clear hc hs
  by_cases hr : 1 ≤ cells ∧ cells ≤ 1024 ∧ 1 ≤ size ∧ size ≤ 4096
  · obtain ⟨h1, h2, h3, h4⟩ := hr
    obtain ⟨N, rfl⟩ := Int.eq_ofNat_of_zero_le (show 0 ≤ cells by omega)
    have j1 : 1 ≤ N := by omega
    have j2 : N ≤ 1024 := by omega
    go_enter Try.func13, Try.ntmps13
    go_wp2_with fail
    refine (new_calls N size _ j1 j2 h3 h4).mono ?_
    rintro e w1 ⟨g, rfl, he1, hd1⟩
    have HX1 := Lib.hid he1
    clear he1
    go_wp2_with fail
    refine (len_nil _).mono ?_
    rintro e w5 ⟨rfl, rfl⟩
    go_wp2_with fail
    refine (loose_nil _).mono ?_
    rintro e w5 ⟨rfl, rfl⟩
    go_wp2_with fail
    refine (crash_nil _).mono ?_
    rintro e w5 ⟨rfl, rfl⟩
    go_wp2_with fail
    refine (read_nil _).mono ?_
    rintro e w5 ⟨rfl, rfl⟩
    go_wp2_with fail
    refine (write_nil _).mono ?_
    rintro e w5 ⟨rfl, rfl⟩
    go_wp2_with fail
    refine (sync_nil _).mono ?_
    rintro e w5 ⟨rfl, rfl⟩
    go_wp2_with fail
    refine (spoil_nil _).mono ?_
    rintro e w5 ⟨rfl, rfl⟩
    go_wp2_with fail
    refine (wipe_nil _).mono ?_
    rintro e w5 ⟨rfl, rfl⟩
    go_wp2_with fail
    refine (Disk.len_calls _ _ _ _ _ _ _ hd1).mono ?_
    rintro e w6 ⟨rfl, he6⟩
    have HX6 := Lib.hid (HX1.out.trans he6)
    have hd6 := hd1.ext he6
    rw [List.length_replicate]
    clear hd1 he6
    go_wp2_with fail
    have hi : (N : Int) - 1 = ((N - 1 : Nat) : Int) := by omega
    rw [hi]
    refine (read_calls _ _ _ _ _ _ _ hd6 (N - 1) (by simp; omega) (by simp)).mono ?_
    rintro e w7 ⟨he7, A7, n7, c7, rfl, ho7⟩
    have e3 : readC (List.replicate N []) [] (N - 1) = [] := by
      unfold readC over
      rw [List.getD_eq_getElem?_getD, List.getElem?_replicate]
      split <;> rfl
    rw [e3] at ho7
    have hn7 : n7 = 0 := by have := ho7.row.1; simpa [nums] using this.symm
    subst hn7
    have HX7 := Lib.hid (HX6.out.trans he7)
    clear he7 ho7 e3 hi
    go_wp2_with fail
    refine (awake_calls _).mono ?_
    rintro e w8 ⟨rfl, he8⟩
    go_wp2_with fail
    go_ret
    exact ⟨rfl, HX7.out.trans he8⟩
  · have hn : cells < 1 ∨ 1024 < cells ∨ size < 1 ∨ 4096 < size := by omega
    have HN := Lib.hid hn
    have h : cells < 1 ∨ (1 ≤ cells ∧ 1024 < cells) ∨ (1 ≤ cells ∧ cells ≤ 1024 ∧ size < 1) ∨ (1 ≤ cells ∧ cells ≤ 1024 ∧ 1 ≤ size ∧ 4096 < size) := by omega
    clear hr hn
    rcases h with h | ⟨h, h2⟩ | ⟨h, h2, h3⟩ | ⟨h, h2, h3, h4⟩
    all_goals
      go_enter Try.func13, Try.ntmps13
      go_wp2_with fail
      refine (new_no cells size _ HN.out).mono ?_
      rintro e w5 ⟨rfl, rfl⟩
      go_wp2_with fail
      refine (len_nil _).mono ?_
      rintro e w5 ⟨rfl, rfl⟩
      go_wp2_with fail
      refine (loose_nil _).mono ?_
      rintro e w5 ⟨rfl, rfl⟩
      go_wp2_with fail
      refine (crash_nil _).mono ?_
      rintro e w5 ⟨rfl, rfl⟩
      go_wp2_with fail
      refine (read_nil _).mono ?_
      rintro e w5 ⟨rfl, rfl⟩
      go_wp2_with fail
      refine (write_nil _).mono ?_
      rintro e w5 ⟨rfl, rfl⟩
      go_wp2_with fail
      refine (sync_nil _).mono ?_
      rintro e w5 ⟨rfl, rfl⟩
      go_wp2_with fail
      refine (spoil_nil _).mono ?_
      rintro e w5 ⟨rfl, rfl⟩
      go_wp2_with fail
      refine (wipe_nil _).mono ?_
      rintro e w5 ⟨rfl, rfl⟩
      go_wp2_with fail
      refine (awake_calls _).mono ?_
      rintro e w8 ⟨rfl, he8⟩
      go_wp2_with fail
      go_ret
      exact ⟨rfl, he8⟩
end Go.Proofs.Ytaohnialheccdaa.PlatterMakesW
