import Derived.Test.YtaohnialheccdaaScan
import Derived.Test.YtaohnialheccdaaLex
import Derived.Outline
namespace Go.Proofs.Ytaohnialheccdaa.SealScansW
open Go.RowKit Base
open Frm (form good scan used nOf kOf loadOf)
open Scan (Row Items)

theorem str {w : World} {A : Option Addr} {n : Nat} {xs : List Int} (c : Nat) (h : Rd w .u8 A n xs) : (convert 22 9 (.slice A n c)).run Try.prog w = .ok (.string (strOfNums xs)) w :=
  run_string (P := Try.prog) 22 9 5 c Try.underlying22 Try.underlying5 Try.underlying9 h
theorem room {w : World} {S : Nat → Prop} {e : TypeId} {size n : Nat} {v : Value} {xs : List Value} (h : Own w S e size v n xs) : n ≤ 9223372036854775807 := by
  rcases h.row.2 with ⟨_, h1⟩ | ⟨g', cap', cur, he, _, _, h1, h2, _⟩
  · omega
  · simp only [maxLen] at h2
    omega
theorem strnil (W : World) : (convert 22 9 (.slice none 0 0)).run Try.prog W = .ok (.string (strOfNums [])) W := str 0 (rd_nil W .u8 none)

set_option maxHeartbeats 8000000 in
set_option maxRecDepth 100000 in
theorem walk (A : Option Addr) (n c : Nat) (xs : List Int) (w : World) (h1 : Rd w .u8 A n xs) (_ : n * 1 ≤ 140737488351232) (hc : n ≤ c) (h0 : A = none → c = 0) :
    Calls Try.prog 8 #[.slice A n c] w fun e w' => e = .returned (.bool true) ∧ Below w.heap.size w w' := by
  have hm1 := h1.room
  have H0 := Lib.hid h0
  clear h0
  by_cases hs1 : 1500 < n
  · go_enter Try.func8, Try.ntmps8
    go_wp2_with (go_at_call 15; refine (Seal.awake_calls _).mono ?_; rintro e w' ⟨rfl, hb⟩)
    go_ret
    exact ⟨rfl, hb⟩
  have SN := Lib.hid strnil
  go_enter Try.func8, Try.ntmps8
  go_wp2_with fail
  ((with_reducible refine (SealOpen.open_calls _ _ _ xs _ h1 hc H0.out (by omega)).mono ?_))
  rintro e w1 ⟨hb1, ho⟩
  have he1 : Ext w w1 := hb1
  have h11 := h1.ext he1
  clear hb1
  rcases ho with ⟨hno, rfl⟩ | ⟨hfo, hno, rfl⟩ | ⟨hfo, hgo, A1, c1, rfl, ho1⟩
  case' inl =>
    go_wp2_with fail
    ((with_reducible refine (Ref10Open.open_calls _ _ _ xs _ h11 hc (by omega)).mono ?_))
    rintro e w2 ⟨he2, ⟨_, rfl⟩ | ⟨hfo, _, rfl⟩ | ⟨hfo, _, _⟩⟩
    case inr.inl => exact absurd hfo hno
    case inr.inr => exact absurd hfo hno
    have s0 := SN.out w2
  case' inr.inl =>
    go_wp2_with fail
    ((with_reducible refine (Ref10Open.open_calls _ _ _ xs _ h11 hc (by omega)).mono ?_))
    rintro e w2 ⟨he2, ⟨hfo2, rfl⟩ | ⟨_, _, rfl⟩ | ⟨_, hgo2, _⟩⟩
    case inl => exact absurd hfo hfo2
    case inr.inr => exact absurd hgo2 hno
    have s0 := SN.out w2
  case' inr.inr =>
    have hr1 := ho1.rd (fun x hx => h1.wf x (List.mem_of_mem_drop (List.mem_of_mem_take hx)))
    clear ho1
    have hnn := Frm.nOf_nonneg xs fun x hx => wf_u8 (h1.wf x hx)
    obtain ⟨N, hN⟩ : ∃ N : Nat, nOf xs = N := ⟨(nOf xs).toNat, by omega⟩
    have HNN := Lib.hid hN
    have hNl : N ≤ 65536 := by have := hfo.2.2.1; omega
    rw [hN, Int.toNat_natCast] at hr1 ⊢
    clear hN hnn
    go_wp2_with fail
    ((with_reducible refine (Ref10Open.open_calls _ _ _ xs _ h11 hc (by omega)).mono ?_))
    rintro e w2 ⟨he2, ⟨hfo2, rfl⟩ | ⟨_, hgo2, rfl⟩ | ⟨_, _, A2, c2, rfl, hr2, _⟩⟩
    case inl => exact absurd hfo hfo2
    case inr.inl => exact absurd hgo hgo2
    rw [HNN.out, Int.toNat_natCast] at hr2 ⊢
    have s1 := str c1 (hr1.ext he2)
    have s2 := str c2 hr2
  all_goals
    go_wp2_with fail
    have h12 := h11.ext he2
    ((with_reducible refine (Scan.scan_at A n c xs _ h12 hc H0.out (by omega)).mono ?_))
    rintro e w3 ⟨he3, A3, c3, rows3, rfl, hi3, hm3⟩
    go_wp2_with fail
    ((with_reducible refine (Scan.rscan_at A n c xs _ (h12.ext he3) hc (by omega)).mono ?_))
    rintro e w4 ⟨he4, A4, c4, rows4, rfl, hi4, hm4⟩
    have hi3 := hi3.ext he4
    have HM3 := Lib.hid hm3
    have HM4 := Lib.hid hm4
    have he04 := ((he1.trans he2).trans he3).trans he4
    clear hm3 hm4 he3 he2 h12 h11
    have hLm := room hi3.own
    generalize (scan n 0 xs).length = L at *
    go_wp2_with fail
    go_loopw [15] (fun i wr => ∃ k : Nat, k ≤ L ∧ i = .int .i64 k ∧ Ext w4 wr) (fun i _ => L - (intOf i).toNat)
    case atStart => exact ⟨0, Nat.zero_le _, rfl, Ext.refl _⟩
    case round =>
      obtain ⟨k, hk, rfl, her⟩ := hrel
      by_cases hlt : k < L
      · obtain ⟨r3, hr3⟩ : ∃ r, rows3[k]? = some r := ⟨_, List.getElem?_eq_getElem (by rw [hi3.len]; exact hlt)⟩
        obtain ⟨r4, hr4⟩ : ∃ r, rows4[k]? = some r := ⟨_, List.getElem?_eq_getElem (by rw [hi4.len]; exact hlt)⟩
        have hit : r3.it = r4.it := by
          have e1 : (rows3.map Row.it)[k]? = (rows4.map Row.it)[k]? := by rw [HM3.out, HM4.out]
          simpa [List.getElem?_map, hr3, hr4] using e1
        obtain ⟨p3, k3, B3, n3, d3, l3⟩ := r3
        obtain ⟨p4, k4, B4, n4, d4, l4⟩ := r4
        obtain ⟨rfl, rfl, rfl⟩ : p3 = p4 ∧ k3 = k4 ∧ l3 = l4 := by simpa [Row.it] using hit
        have hb3 := ((hi3.ext her).rd _ (List.mem_of_getElem? hr3)).1
        have hb4 := ((hi4.ext her).rd _ (List.mem_of_getElem? hr4)).1
        have hv3 := (hi3.ext her).own.rdv
        have hv4 := (hi4.ext her).own.rdv
        have g3 := fun j hj => get_flat Row.cells 3 (fun _ => rfl) rows3 k j _ hr3 hj
        have g4 := fun j hj => get_flat Row.cells 3 (fun _ => rfl) rows4 k j _ hr4 hj
        obtain ⟨ad3, rfl, hc3⟩ := hv3 (fun h => by have := g3 0 (by omega); rw [h] at this; simp [Row.cells] at this)
        obtain ⟨ad4, rfl, hc4⟩ := hv4 (fun h => by have := g4 0 (by omega); rw [h] at this; simp [Row.cells] at this)
        have a30 := hc3 _ _ (g3 0 (by omega))
        have a31 := hc3 _ _ (g3 1 (by omega))
        have a32 := hc3 _ _ (g3 2 (by omega))
        have a40 := hc4 _ _ (g4 0 (by omega))
        have a41 := hc4 _ _ (g4 1 (by omega))
        have a42 := hc4 _ _ (g4 2 (by omega))
        clear hit g3 g4 hv3 hv4 hc3 hc4 hr3 hr4
        have hk0 : (0 : Int) ≤ (k : Int) := by omega
        have hkL : (k : Int) < (L : Int) := by omega
        have f30 : ∀ W, Ext wr.drew W → W.cell? (ad3.add (k * 3)) = some (.int .i64 p3) := fun W h => ((Ext.refl wr).drew.trans h).cell_ a30
        have f31 : ∀ W, Ext wr.drew W → W.cell? ⟨(ad3.add (k * 3)).block, (ad3.add (k * 3)).off + 1, none⟩ = some (.int .u16 k3) := fun W h => ((Ext.refl wr).drew.trans h).cell_ (by rw [← add_of_add] at a31; exact a31)
        have f32 : ∀ W, Ext wr.drew W → W.cell? ⟨(ad3.add (k * 3)).block, (ad3.add (k * 3)).off + 2, none⟩ = some (.slice B3 n3 d3) := fun W h => ((Ext.refl wr).drew.trans h).cell_ (by rw [← add_of_add] at a32; exact a32)
        have f40 : ∀ W, Ext wr.drew W → W.cell? (ad4.add (k * 3)) = some (.int .i64 p3) := fun W h => ((Ext.refl wr).drew.trans h).cell_ a40
        have f41 : ∀ W, Ext wr.drew W → W.cell? ⟨(ad4.add (k * 3)).block, (ad4.add (k * 3)).off + 1, none⟩ = some (.int .u16 k3) := fun W h => ((Ext.refl wr).drew.trans h).cell_ (by rw [← add_of_add] at a41; exact a41)
        have f42 : ∀ W, Ext wr.drew W → W.cell? ⟨(ad4.add (k * 3)).block, (ad4.add (k * 3)).off + 2, none⟩ = some (.slice B4 n4 d4) := fun W h => ((Ext.refl wr).drew.trans h).cell_ (by rw [← add_of_add] at a42; exact a42)
        have s33 : ∀ W, Ext wr.drew W → (convert 22 9 (.slice B3 n3 d3)).run Try.prog W = .ok (.string (strOfNums l3)) W := fun W h => str _ (hb3.ext ((Ext.refl wr).drew.trans h))
        have s44 : ∀ W, Ext wr.drew W → (convert 22 9 (.slice B4 n4 d4)).run Try.prog W = .ok (.string (strOfNums l3)) W := fun W h => str _ (hb4.ext ((Ext.refl wr).drew.trans h))
        clear a30 a31 a32 a40 a41 a42
        go_wp2_with fail
        refine Lex.wp_region_ext [] (by kernel_rfl) (by kernel_rfl) (by repeat (first | exact Lex.st_nil | refine Lex.st_cons (by first | exact Lex.nums_st | exact Lex.const_st) ?_)) ?_
        repeat (first | (refine Lex.lex_skip (by rfl) ?_; simp only [Act.put, List.setIfInBounds_toArray, List.set_cons_zero, List.set_cons_succ]) | (refine Lex.lex_still (by rfl) (by rfl) ?_; apply Exists.intro; refine ⟨fun W hW => ?_, ?_⟩; (have hE := hW.1; go_simp; try with_reducible rfl); simp only [Act.put, List.setIfInBounds_toArray, List.set_cons_zero, List.set_cons_succ]))
        refine Lex.lex_nil (fun W hW => ?_)
        have hW1 := hW.1
        clear hW f30 f31 f32 f40 f41 f42 s33 s44
        go_wp2_with fail
        go_roundw
        case rel => exact ⟨k + 1, by omega, by go_num, her.trans ((Ext.refl wr).drew.trans hW1)⟩
        case measure => simp [intOf]; omega
      · go_wp2_with fail
        refine (Seal.awake_calls _).mono ?_
        rintro e w6 ⟨rfl, hb6⟩
        go_wp2_with fail
        go_ret
        exact ⟨rfl, (he04.trans her).trans hb6⟩
end Go.Proofs.Ytaohnialheccdaa.SealScansW
