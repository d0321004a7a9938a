/- The document's Drop: walked. -/
import Derived.Test.YtipmkddcdnbihaaUrgR
namespace Go.Proofs.Ytipmkddcdnbihaa.Urg
open Go.RowKit Base Step MapIs Vec
open UrgP
theorem info_rjob : (Try.prog.info? 35).map (fun i => (i.zero, i.size, i.bytes)) = some (some (.agg #[.int .u32 0, .int .u16 0, .int .i64 0]), 3, 16) := by kernel_rfl
theorem without_snoc (l : List Job) (j : Job) (k : Int × Int) : without (l ++ [j]) k = without l k ++ if UrgP.key j = k then [] else [j] := by
  unfold without
  rw [List.filter_append]
  congr 1
  by_cases h : UrgP.key j = k
  · rw [if_pos h, List.filter_cons_of_neg (by simp [h]), List.filter_nil]
  · rw [if_neg h]
    exact List.filter_cons_of_pos (p := fun x => decide (UrgP.key x ≠ k)) (decide_eq_true h)
theorem take_next {r : List Job} {k : Nat} (h : k < r.length) : r.take (k + 1) = r.take k ++ [at_ r k] := by
  rw [List.take_add_one, at_get h]
  rfl
/-- A list under way. -/
structure Rest (w : World) (A : Option Addr) (m c : Nat) (xs : List Job) (wr : World) : Prop where
  len : xs.length = m
  own : New w wr 35 3 A m c (xs.flatMap jobV)
  ext : Ext w wr
set_option maxRecDepth 100000 in
set_option maxHeartbeats 2000000 in
theorem rdrop_calls (A : Option Addr) (n c : Nat) (r : List Job) (o s : Int) (w : World) (h : RowJ w A n c r) (hn : n ≤ 1000000) :
    Calls Try.prog 22 #[.slice A n c, .int .u32 o, .int .u16 s] w fun e w' => ∃ A' m c', e = .returned (.slice A' m c') ∧ Rest w A' m c' (without r (o, s)) w' := by
  have HR := Lib.hid h
  have HLE := Lib.hid h.len
  clear h
  go_enter Try.func22, Try.ntmps22
  go_wp2_with fail
  go_loopg [7, 8] n (fun left v i wr => ∃ (A' : Option Addr) (m c' k : Nat), v = .slice A' m c' ∧ i = .int .i64 k ∧ k + left = n ∧ m ≤ k ∧ Hid (Rest w A' m c' (without (r.take k) (o, s)) wr))
  case atStart => exact ⟨none, 0, 0, 0, rfl, rfl, by omega, Nat.le_refl _, Lib.hid ⟨rfl, Own.nil _ _ _ _, Ext.refl _⟩⟩
  case round =>
    obtain ⟨A', m, c', k, rfl, rfl, hk, hmk, HK⟩ := hrel
    by_cases hlt : k < n
    · have hkr : k < r.length := by rw [HLE.out]; exact hlt
      obtain ⟨_, ad, rfl, c0, c1, c2⟩ := HR.out.at_ k _ (at_get hkr)
      replace c0 := HK.out.ext.cell_ c0
      replace c1 := HK.out.ext.cell_ c1
      replace c2 := HK.out.ext.cell_ c2
      have HT := Lib.hid (take_next hkr)
      obtain ⟨j, hj⟩ : ∃ j, j = at_ r k := ⟨_, rfl⟩
      rw [← hj] at c0 c1 c2 HT
      clear hj hkr
      by_cases hkey : j.o = o ∧ j.s = s
      · obtain ⟨ho, hs⟩ := hkey
        go_wp2_with fail
        go_roundg (n - (k + 1))
        case measure => omega
        case rel =>
          refine ⟨A', m, c', k + 1, rfl, by first | rfl | go_num, by omega, by omega, Lib.hid ?_⟩
          rw [HT.out, without_snoc, if_pos (by show (j.o, j.s) = _; rw [ho, hs]), List.append_nil]
          exact HK.out
      · have hne : ¬ j.o = o ∨ (j.o = o ∧ ¬ j.s = s) := by omega
        have hkey2 : UrgP.key j ≠ (o, s) := fun e => hkey ⟨(Prod.mk.inj e).1, (Prod.mk.inj e).2⟩
        have HKEY := Lib.hid hkey2
        clear hkey hkey2
        rcases hne with ho | ⟨rfl, hs⟩
        · have hbo : (j.o != o) = true := by simpa using ho
          go_wp2_with (at_builtin; refine wpList_moreE w wr rfl (.tmp 31) (.tmp 36) 22 rfl 35 _ 3 16 Try.underlying22 info_rjob rfl (by decide) (by decide) (.slice A' m c') m ((without (r.take k) (o, s)).flatMap jobV) rfl HK.out.own HK.out.ext [.int .u32 j.o, .int .u16 j.s, .int .i64 j.g] rfl (by simp [Value.oneCell']) rfl ?c2 ?_)
          case c2 => omega
          intro A2 c2 w2 ho2 he2 _
          have HO2 := Lib.hid (And.intro ho2 he2)
          clear ho2 he2
          go_wp2_with fail
          go_roundg (n - (k + 1))
          case measure => omega
          case rel =>
            refine ⟨A2, m + 1, c2, k + 1, rfl, by first | rfl | go_num, by omega, by omega, Lib.hid ⟨?_, ?_, HO2.out.2⟩⟩
            · rw [HT.out, without_snoc, if_neg HKEY.out, List.length_append, HK.out.len]; rfl
            · rw [HT.out, without_snoc, if_neg HKEY.out, List.flatMap_append]
              exact HO2.out.1
        · have hbs : (j.s != s) = true := by simpa using hs
          go_wp2_with (at_builtin; refine wpList_moreE w wr rfl (.tmp 31) (.tmp 36) 22 rfl 35 _ 3 16 Try.underlying22 info_rjob rfl (by decide) (by decide) (.slice A' m c') m ((without (r.take k) (j.o, s)).flatMap jobV) rfl HK.out.own HK.out.ext [.int .u32 j.o, .int .u16 j.s, .int .i64 j.g] rfl (by simp [Value.oneCell']) rfl ?c2 ?_)
          case c2 => omega
          intro A2 c2 w2 ho2 he2 _
          have HO2 := Lib.hid (And.intro ho2 he2)
          clear ho2 he2
          go_wp2_with fail
          go_roundg (n - (k + 1))
          case measure => omega
          case rel =>
            refine ⟨A2, m + 1, c2, k + 1, rfl, by first | rfl | go_num, by omega, by omega, Lib.hid ⟨?_, ?_, HO2.out.2⟩⟩
            · rw [HT.out, without_snoc, if_neg HKEY.out, List.length_append, HK.out.len]; rfl
            · rw [HT.out, without_snoc, if_neg HKEY.out, List.flatMap_append]
              exact HO2.out.1
    · obtain rfl : k = n := by omega
      have HX : Hid (Rest w A' m c' (without r (o, s)) _) := Lib.hid (by have := HK.out; rwa [List.take_of_length_le (by rw [HLE.out]; exact Nat.le_refl _)] at this)
      clear HK
      go_wp2_with fail
      go_ret
      exact ⟨A', m, c', rfl, HX.out⟩
end Go.Proofs.Ytipmkddcdnbihaa.Urg
