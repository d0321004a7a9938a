import Derived.Test.YtaohnialheccdaaRef09
import Derived.Test.YtaohnialheccdaaStruct
import Derived.Test.YtaohnialheccdaaVec
import Derived.Outline
namespace Go.Proofs.Ytaohnialheccdaa.SitePts
open Go.RowKit Base Step Vec Site Ref09
open Shape (Sh Fs)
def ptS : Sh := .st (.cons (.int .i64) (.cons (.int .i64) .nil))
/-- Points as an argument. -/
structure Pts (w : World) (A : Option Addr) (n : Nat) (ps : List (Int × Int)) : Prop where
  len : ps.length = n
  room : n ≤ 9223372036854775807
  at_ : ∀ (i : Nat) (p : Int × Int), ps[i]? = some p → ∃ ad, A = some ad ∧ w.cell? (ad.add (i * 2)) = some (.int .i64 p.1) ∧ w.cell? ⟨(ad.add (i * 2)).block, (ad.add (i * 2)).off + 1, none⟩ = some (.int .i64 p.2)
theorem Pts.ext {w w' : World} {A : Option Addr} {n : Nat} {ps : List (Int × Int)} (h : Pts w A n ps) (he : Ext w w') : Pts w' A n ps :=
  ⟨h.len, h.room, fun i p hp => by
    obtain ⟨ad, h1, h2, h3⟩ := h.at_ i p hp
    exact ⟨ad, h1, he.cell_ h2, he.cell_ h3⟩⟩
theorem pts_of {w : World} {A : Option Addr} {n c : Nat} {l : List (Int × Int × Unit)} (h : (Sh.sl ptS).ok w (A, n, c, l)) : Pts w A n (l.map fun x => (x.1, x.2.1)) := by
  obtain ⟨h1, h2, h3, h4, h5⟩ : l.length = n ∧ n ≤ c ∧ c ≤ maxLen ∧ (A = none → c = 0) ∧ ∀ i (x : Int × Int × Unit), l[i]? = some x → ptS.ok w x ∧ ∃ ad, A = some ad ∧ ∀ j u, (ptS.cells x)[j]? = some u → w.cell? (ad.add (i * ptS.size + j)) = some u := h
  refine ⟨by simpa using h1, by simp only [maxLen] at h3; omega, fun i p hp => ?_⟩
  rw [List.getElem?_map] at hp
  obtain ⟨x, hx, rfl⟩ := Option.map_eq_some_iff.1 hp
  obtain ⟨_, ad, ha, hc⟩ := h5 i x hx
  have x0 := hc 0 _ rfl
  have x1 := hc 1 _ rfl
  have hsz : ptS.size = 2 := rfl
  rw [hsz] at x0 x1
  rw [Nat.add_zero] at x0
  rw [← add_of_add] at x1
  exact ⟨ad, ha, x0, x1⟩
set_option maxRecDepth 100000 in
set_option maxHeartbeats 1000000 in
theorem right_yes (A : Option Addr) (n c : Nat) (ps : List (Int × Int)) (w : World) (h : Pts w A n ps) (hn : n ≤ 60) (hr : ∀ p ∈ ps, near p.1 ∧ near p.2) :
    Calls Try.prog 57 #[.slice A n c] w fun e w' => e = .returned (.bool true) ∧ Ext w w' := by
  have hl := h.len
  go_enter Try.func57, Try.ntmps57
  go_wp2_with fail
  go_loopw [3] (fun i wr => ∃ k : Nat, i = .int .i64 k ∧ k ≤ n ∧ Ext w wr) (fun i _ => n - (intOf i).toNat)
  case atStart => exact ⟨0, rfl, Nat.zero_le _, Ext.refl _⟩
  case round =>
    obtain ⟨k, rfl, hk, hx⟩ := hrel
    by_cases hlt : k < n
    · obtain ⟨p, hp⟩ : ∃ p, ps[k]? = some p := ⟨_, List.getElem?_eq_getElem (by omega)⟩
      obtain ⟨ad, rfl, x0, x1⟩ := (h.ext hx).at_ k p hp
      have hq := hr p (List.mem_of_getElem? hp)
      have HR := Lib.hid fun W => Ref09.right_yes p.1 p.2 W hq.1 hq.2
      have hk60 : (k : Int) < 60 := by omega
      clear hp hq
      go_wp2_with fail
      refine (HR.out _).mono ?_
      rintro e w5 ⟨rfl, he5⟩
      have hx5 := hx.trans he5
      clear he5 x0 x1 hx
      go_wp2_with fail
      go_roundw
      case rel => exact ⟨k + 1, by go_num, by omega, hx5⟩
      case measure => simp [intOf]; omega
    · obtain rfl : k = n := by omega
      have hk60 : (k : Int) ≤ 60 := by omega
      go_wp2_with fail
      go_ret
      exact ⟨by simp [hk60], hx⟩
theorem info_pt : (Try.prog.info? 31).map (fun i => (i.zero, i.size, i.bytes)) = some (some (.complex .f64 0 0), 1, 16) := by kernel_rfl
def cpx (p : Int × Int) : Value := .complex .f64 (F p.1) (F p.2)
set_option maxRecDepth 100000 in
set_option maxHeartbeats 2000000 in
theorem to_calls (A : Option Addr) (n c : Nat) (ps : List (Int × Int)) (w : World) (h : Pts w A n ps) (hn : n ≤ 60) (hr : ∀ p ∈ ps, near p.1 ∧ near p.2) :
    Calls Try.prog 58 #[.slice A n c] w fun e w' => Ext w w' ∧ ∃ A' c', e = .returned (.tuple #[.slice A' n c', .bool true]) ∧ New w w' 31 1 A' n c' (ps.map cpx) := by
  have hl := h.len
  go_enter Try.func58, Try.ntmps58
  go_wp2_with fail
  go_loopw [4, 5] (fun o i wr => ∃ (k : Nat) (A' : Option Addr) (c' : Nat), o = .slice A' k c' ∧ i = .int .i64 k ∧ k ≤ n ∧ Ext w wr ∧ New w wr 31 1 A' k c' ((ps.take k).map cpx)) (fun _ i _ => n - (intOf i).toNat)
  case atStart => exact ⟨0, none, 0, rfl, rfl, Nat.zero_le _, Ext.refl _, Own.nil _ _ _ _⟩
  case round =>
    obtain ⟨k, A', c', rfl, rfl, hk, hx, ho⟩ := hrel
    by_cases hlt : k < n
    · obtain ⟨p, hp⟩ : ∃ p, ps[k]? = some p := ⟨_, List.getElem?_eq_getElem (by omega)⟩
      obtain ⟨ad, rfl, x0, x1⟩ := (h.ext hx).at_ k p hp
      have hq := hr p (List.mem_of_getElem? hp)
      have HA := Lib.hid fun W => at_calls p.1 p.2 W hq.1 hq.2
      have HT : Hid ((ps.take (k + 1)).map cpx = (ps.take k).map cpx ++ [cpx p]) := Lib.hid (by
        have hg := List.getElem?_eq_some_iff.1 hp
        rw [List.take_succ_eq_append_getElem hg.1, hg.2, List.map_append]; rfl)
      have d0 : ∀ W, Ext wr.drew W → W.cell? (ad.add (k * 2)) = some (.int .i64 p.1) := fun W hW => (drew_ext hW).cell_ x0
      have d1 : ∀ W, Ext wr.drew W → W.cell? ⟨(ad.add (k * 2)).block, (ad.add (k * 2)).off + 1, none⟩ = some (.int .i64 p.2) := fun W hW => (drew_ext hW).cell_ x1
      obtain ⟨f1, hf1⟩ : ∃ f, F p.1 = f := ⟨_, rfl⟩
      obtain ⟨f2, hf2⟩ : ∃ f, F p.2 = f := ⟨_, rfl⟩
      have HC : Hid (cpx p = .complex .f64 f1 f2) := Lib.hid (by rw [← hf1, ← hf2]; rfl)
      rw [hf1, hf2] at HA
      clear hp hq x0 x1 hf1 hf2
      go_wp2_with fail
      refine Lex.wp_region_ext [(10, .const (.tuple #[.complex .f64 f1 f2, .int .i64 0]))] (by kernel_rfl) (by kernel_rfl) (by repeat (first | exact Lex.st_nil | refine Lex.st_cons (by first | exact Lex.nums_st | exact Lex.const_st | exact Lex.such_st | exact Lex.row_st | exact Lex.rowE_st | exact Lex.litR_st | assumption) ?_)) ?_
      repeat (first | (refine Lex.lex_skip (by rfl) ?_; simp only [Act.put, List.setIfInBounds_toArray, List.set_cons_zero, List.set_cons_succ]) | (refine Lex.lex_still (by rfl) (by rfl) ?_; apply Exists.intro; refine ⟨fun W hW => ?_, ?_⟩; (have hE := hW.1; have hE2 := Base.Ext.trans (Base.Ext.drew (Base.Ext.refl _)) hW.1; clear hW; go_simp; try with_reducible rfl); simp only [Act.put, List.setIfInBounds_toArray, List.set_cons_zero, List.set_cons_succ]))
      refine Lex.lex_loose (by rfl) (by rfl) (fun W hW => ?_) ?_
      · go_simp
        refine (HA.out _).mono ?_
        rintro e w5 ⟨rfl, rfl⟩
        exact ⟨_, rfl, rfl, Ext.refl _, trivial⟩
      rintro v rfl
      simp only [Act.put, List.setIfInBounds_toArray, List.set_cons_zero, List.set_cons_succ]
      repeat (first | (refine Lex.lex_skip (by rfl) ?_; simp only [Act.put, List.setIfInBounds_toArray, List.set_cons_zero, List.set_cons_succ]) | (refine Lex.lex_still (by rfl) (by rfl) ?_; apply Exists.intro; refine ⟨fun W hW => ?_, ?_⟩; (have hE := hW.1; have hE2 := Base.Ext.trans (Base.Ext.drew (Base.Ext.refl _)) hW.1; clear hW; go_simp; try with_reducible rfl); simp only [Act.put, List.setIfInBounds_toArray, List.set_cons_zero, List.set_cons_succ]))
      refine Lex.lex_nil (fun W hW => ?_)
      have hE := drew_ext hW.1
      have hoE := ho.extNew hE
      have hxE := hx.trans hE
      have hszE := hxE.size
      clear hW d0 d1 hx hE ho
      have hvs : ∀ (j : Nat) u, [Value.complex .f64 f1 f2][j]? = some u → (W.alloc (.cells #[.complex .f64 f1 f2] 31)).cell? ⟨W.heap.size, j, none⟩ = some u := fun j u hu => blk_cell (at_new W _) (Ext.refl _) (by simpa using hu)
      go_wp2_with (at_builtin; refine wpList_appE _ rfl _ _ _ rfl (fun i => w.heap.size ≤ i) 31 _ 1 16 Try.underlying101 info_pt rfl (by decide) (by decide) (.slice A' k c') k ((ps.take k).map cpx) rfl (hoE.extNew (Ext.new _ _)) W.heap.size 1 [.complex .f64 f1 f2] rfl rfl hvs (by simp [Value.oneCell']) ?c2 (fun i hi => Nat.le_trans hszE (Nat.le_trans (Ext.new _ _).size hi)) ?_)
      case c2 => omega
      intro A5 c5 w5 ho5 hc5
      have hx5 : Ext w w5 := (hxE.trans (Ext.new W _)).chg hc5 fun i hi => hoE.foot i hi
      have ho6 : New w w5 31 1 A5 (k + 1) c5 ((ps.take (k + 1)).map cpx) := by rw [HT.out, HC.out, List.map_take]; exact ho5
      clear ho5 hc5 hoE hvs
      go_wp2_with fail
      go_roundw
      case rel => exact ⟨k + 1, _, _, rfl, by go_num, by omega, hx5, ho6⟩
      case measure => simp [intOf]; omega
    · obtain rfl : k = n := by omega
      rw [List.take_of_length_le (by omega)] at ho
      go_wp2_with fail
      go_ret2
      exact ⟨hx, A', c', rfl, ho⟩
end Go.Proofs.Ytaohnialheccdaa.SitePts
