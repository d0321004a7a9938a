import Derived.Test.YtaohnialheccdaaRef10
import Derived.Test.YtaohnialheccdaaLex
namespace Go.Proofs.Ytaohnialheccdaa.SealFramesW
open Go.RowKit Base
attribute [local go_sem] Lex.looseAt

theorem str {w : World} {A : Option Addr} {n : Nat} {xs : List Int} (c : Nat) (h : Rd w .u8 A n xs) : (convert 22 9 (.slice A n c)).run Try.prog w = .ok (.string (strOfNums xs)) w :=
  run_string 22 9 5 c Try.underlying22 Try.underlying5 Try.underlying9 h

set_option maxHeartbeats 8000000 in
set_option maxRecDepth 100000 in
theorem walk (kind : Int) (A : Option Addr) (n c : Nat) (xs : List Int) (B : Option Addr) (m d : Nat) (ys : List Int) (w : World) (hk : (Lit.int .u16 kind).wf = true) (h1 : Rd w .u8 A n xs) (_ : n * 1 ≤ 140737488351232) (h2 : Rd w .u8 B m ys) (_ : m * 1 ≤ 140737488351232) :
    Calls Try.prog 10 #[.int .u16 kind, .slice A n c, .slice B m d] w fun e w' => e = .returned (.bool true) ∧ Below w.heap.size w w' := by
  obtain ⟨hk0, hk1⟩ := wf_u16 hk
  have hm1 := h1.room
  have hm2 := h2.room
  have HL1 := Lib.hid h1.len
  clear hk
  by_cases hs1 : 1000 < n
  · go_enter Try.func10, Try.ntmps10
    go_wp2_with (go_at_call 15; refine (Seal.awake_calls _).mono ?_; rintro e w' ⟨rfl, hb⟩)
    go_ret
    exact ⟨rfl, hb⟩
  by_cases hs2 : 100 < m
  · go_enter Try.func10, Try.ntmps10
    go_wp2_with (go_at_call 15; refine (Seal.awake_calls _).mono ?_; rintro e w' ⟨rfl, hb⟩)
    go_ret
    exact ⟨rfl, hb⟩
  have hof := Frm.open_frame kind xs ys hk0 hk1 (fun x hx => wf_u8 (h1.wf x hx)) (by rw [HL1.out]; omega)
  rw [HL1.out] at hof
  have HOF := Lib.hid hof
  have HFW : Hid (∀ x ∈ Frm.frame kind xs, (Lit.int .u8 x).wf = true) := Lib.hid fun x hx => by have := Frm.frame_u8 kind xs (fun x hx => wf_u8 (h1.wf x hx)) x hx; exact u8_wf this.1 this.2
  clear hof
  go_enter Try.func10, Try.ntmps10
  go_wp2_with fail
  refine (SealFrame.frame_calls kind A n c xs _ hk0 hk1 h1 (by omega)).mono ?_
  rintro e w1 ⟨A1, c1, rfl, ho1, hb1⟩
  have hr1 := ho1.rd HFW.out
  go_wp2_with (at_builtin; refine wpList_clone _ rfl _ _ _ rfl 5 .u8 1 Try.underlying22 Pack.info_u8 (by decide) rfl A1 (12 + n) c1 (Frm.frame kind xs) rfl hr1 ?c2 ?_)
  case c2 => omega
  intro A2 c2 w2 ho2 he2
  have hr2 := h2.ext (Ext.trans hb1 he2)
  go_wp2_with (at_builtin; refine wpList_more w1 _ rfl _ _ _ rfl 5 .u8 1 Try.underlying22 Pack.info_u8 (by decide) _ (12 + n) (Frm.frame kind xs) rfl ho2 he2 B m d ys rfl hr2 ?c2 ?_)
  case c2 => omega
  intro A3 c3 w3 ho3 he3
  have hr3 := ho3.rd (wf_append HFW.out h2.wf)
  have HCAP := Lib.hid ho3.cap
  go_wp2_with fail
  refine (SealOpen.open_calls _ _ _ _ _ hr3 HCAP.out.1 HCAP.out.2 (by omega)).mono ?_
  rintro e w4 ⟨hb4, h4⟩
  rcases h4 with ⟨h4, _⟩ | ⟨_, h4, _⟩ | ⟨_, _, A4, c4, rfl, ho4⟩
  · exact absurd HOF.out.1 h4
  · exact absurd HOF.out.2.1 h4
  rw [HOF.out.2.2.1, HOF.out.2.2.2.1] at *
  rw [HOF.out.2.2.2.2, Int.toNat_natCast] at ho4
  rw [Int.toNat_natCast]
  have hr4 := ho4.rd h1.wf
  have he14 : Ext w1 w4 := Ext.trans he3 hb4
  have he4 : Ext w w4 := Ext.trans hb1 he14
  have hr14 := hr1.ext he14
  have hrx := h1.ext he4
  have hs1 : ∀ W, Ext w4.drew W → (convert 22 9 (.slice A1 (12 + n) c1)).run Try.prog W = .ok (.string (strOfNums (Frm.frame kind xs))) W := fun W h => str _ (hr14.ext (Ext.trans (Ext.refl w4).drew h))
  have hs4 : ∀ W, Ext w4.drew W → (convert 22 9 (.slice A4 n c4)).run Try.prog W = .ok (.string (strOfNums xs)) W := fun W h => str _ (hr4.ext (Ext.trans (Ext.refl w4).drew h))
  have hsx : ∀ W, Ext w4.drew W → (convert 22 9 (.slice A n c)).run Try.prog W = .ok (.string (strOfNums xs)) W := fun W h => str _ (hrx.ext (Ext.trans (Ext.refl w4).drew h))
  clear ho1 hb1 hr1 ho2 he2 hr2 ho3 he3 hr3 hb4 ho4
  go_wp2_with fail
  refine Lex.wp_region_ext [(4, .nums .u8 (12 + n) (Frm.frame kind xs)), (30, .const (.bool true))] (by kernel_rfl) (by kernel_rfl) (Lex.st_cons Lex.nums_st (Lex.st_cons Lex.const_st Lex.st_nil)) ?_
  repeat (first
    | (refine Lex.lex_still (by rfl) (by rfl) ?_; apply Exists.intro; refine ⟨fun W hW => ?_, ?_⟩; (have hE := hW.1; go_simp; try with_reducible rfl); (simp only [Act.put, List.setIfInBounds_toArray, List.set_cons_zero, List.set_cons_succ])))
  refine Lex.lex_loose (by rfl) (by rfl) (fun W hW => ?_) ?_
  · have hrW := hrx.ext (Ext.trans (Ext.refl w4).drew hW.1)
    go_simp
    refine (Ref10.frame_calls kind A n c xs _ hk0 hk1 hrW (by omega)).mono ?_
    rintro e w5 ⟨A5, c5, rfl, ho5, hb5⟩
    exact ⟨_, rfl, ⟨_, _, rfl⟩, hb5, Lex.nums_mk (ho5.rd HFW.out)⟩
  rintro v ⟨A5, c5, rfl⟩
  simp only [Act.put, List.setIfInBounds_toArray, List.set_cons_zero, List.set_cons_succ]
  refine Lex.lex_still (by rfl) (by rfl) ?_
  apply Exists.intro
  refine ⟨fun W hW => ?_, ?_⟩
  · have q := str c5 (Lex.upd_here (hW.2 4 (by kernel_rfl)) _ _ rfl)
    go_simp
    try with_reducible rfl
  simp only [Act.put, List.setIfInBounds_toArray, List.set_cons_zero, List.set_cons_succ]
  repeat (first
    | (refine Lex.lex_still (by rfl) (by rfl) ?_; apply Exists.intro; refine ⟨fun W hW => ?_, ?_⟩; (have hE := hW.1; go_simp; try with_reducible rfl); (simp only [Act.put, List.setIfInBounds_toArray, List.set_cons_zero, List.set_cons_succ])))
  refine Lex.lex_loose (by rfl) (by rfl) (fun W hW => ?_) ?_
  · go_simp
    refine (Seal.awake_calls _).mono ?_
    rintro e w6 ⟨rfl, hb6⟩
    exact ⟨_, rfl, rfl, hb6, trivial⟩
  rintro v rfl
  simp only [Act.put, List.setIfInBounds_toArray, List.set_cons_zero, List.set_cons_succ]
  repeat (first
    | (refine Lex.lex_still (by rfl) (by rfl) ?_; apply Exists.intro; refine ⟨fun W hW => ?_, ?_⟩; (have hE := hW.1; go_simp; try with_reducible rfl); (simp only [Act.put, List.setIfInBounds_toArray, List.set_cons_zero, List.set_cons_succ])))
  refine Lex.lex_nil (fun W hW => ?_)
  have HE := Lib.hid (Ext.trans he4 (Ext.trans (Ext.refl w4).drew hW.1))
  clear hW
  go_wp2
  go_ret
  exact ⟨rfl, HE.out⟩
end Go.Proofs.Ytaohnialheccdaa.SealFramesW
