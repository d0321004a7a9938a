/- slices.Clone of slices of structs and of slices (printed by gen_clones.py). -/
import Derived.Test.YtfhgjopoohfhjaaErase
import Derived.Test.YtfhgjopoohfhjaaProg
import Derived.Lib.SliceRun
namespace Go.Proofs.Ytfhgjopoohfhjaa.Clones
open Go.RowKit Base Step Vec
theorem infoObj : (Try.prog.info? 108).map (fun i => (i.zero, i.size, i.bytes)) = some (some (.agg #[.int .u32 0, .string ByteArray.empty, .int .i64 0, .int .i64 0, .int .i64 0, .slice none 0 0]), 6, 72) := by kernel_rfl
set_option maxHeartbeats 400000 in
set_option maxRecDepth 100000 in
theorem cloneObj (A : Option Addr) (n c : Nat) (vs : List Value) (w : World) (hl : vs.length = n * 6) (hA : A = none → n = 0) (hc : ∀ ad, A = some ad → ∀ j u, vs[j]? = some u → w.cell? (ad.add j) = some u) (h1 : ∀ u ∈ vs, u.oneCell' = true) (hb : n * 72 ≤ 140737488355328) :
    Calls Try.prog 176 #[.slice A n c] w fun e w' => Ext w w' ∧ ∃ A' c', e = .returned (.slice A' n c') ∧ New w w' 108 6 A' n c' vs := by
  have hq := fun (W : World) (a : Option Addr) (n c n' c' : Nat) => Lib.run_eql_slice_nil (P := Try.prog) W 213 108 a n c n' c' Try.underlying213
  rcases A with _ | ad
  · obtain rfl := hA rfl
    obtain rfl : vs = [] := List.eq_nil_of_length_eq_zero (by simpa using hl)
    go_enter Try.func176, Try.ntmps176
    go_wp2_with fail
    go_ret
    exact ⟨Ext.refl _, none, 0, rfl, Own.nil _ _ _ _⟩
  · have HC := Lib.hid (hc ad rfl)
    have HL := Lib.hid hl
    have H1 := Lib.hid h1
    clear hc hl h1 hA
    go_enter Try.func176, Try.ntmps176
    go_wp2_with (at_builtin; refine wpList_appV _ rfl _ _ _ rfl (fun i => w.heap.size ≤ i) 108 _ 6 72 Try.underlying213 infoObj rfl (by decide) (by decide) _ 0 [] rfl (own_empty (at_new w _) (Nat.le_refl _)) (some ad) n c vs rfl HL.out (fun h => by cases h) ?c1 H1.out ?c2 ?c3 ?_)
    case c1 => exact fun ad' e j u hu => by cases e; exact (Ext.new w _).cell_ (HC.out j u hu)
    case c2 => omega
    case c3 => exact fun i hi => Nat.le_trans (by simp) hi
    intro A2 c2 w2 ho2 hc2
    have HE := Lib.hid ((Ext.new w (.cells #[] 108)).chg hc2 fun i hi => by have hi : some w.heap.size = some i := hi; cases hi; exact Nat.le_refl _)
    have HO := Lib.hid ho2
    clear ho2 hc2
    go_wp2_with fail
    go_ret
    exact ⟨HE.out, A2, c2, by simp, by simpa using HO.out⟩
theorem infoRows : (Try.prog.info? 218).map (fun i => (i.zero, i.size, i.bytes)) = some (some (.slice none 0 0), 1, 24) := by kernel_rfl
set_option maxHeartbeats 400000 in
set_option maxRecDepth 100000 in
theorem cloneRows (A : Option Addr) (n c : Nat) (vs : List Value) (w : World) (hl : vs.length = n * 1) (hA : A = none → n = 0) (hc : ∀ ad, A = some ad → ∀ j u, vs[j]? = some u → w.cell? (ad.add j) = some u) (h1 : ∀ u ∈ vs, u.oneCell' = true) (hb : n * 24 ≤ 140737488355328) :
    Calls Try.prog 170 #[.slice A n c] w fun e w' => Ext w w' ∧ ∃ A' c', e = .returned (.slice A' n c') ∧ New w w' 218 1 A' n c' vs := by
  have hq := fun (W : World) (a : Option Addr) (n c n' c' : Nat) => Lib.run_eql_slice_nil (P := Try.prog) W 106 218 a n c n' c' Try.underlying106
  rcases A with _ | ad
  · obtain rfl := hA rfl
    obtain rfl : vs = [] := List.eq_nil_of_length_eq_zero (by simpa using hl)
    go_enter Try.func170, Try.ntmps170
    go_wp2_with fail
    go_ret
    exact ⟨Ext.refl _, none, 0, rfl, Own.nil _ _ _ _⟩
  · have HC := Lib.hid (hc ad rfl)
    have HL := Lib.hid hl
    have H1 := Lib.hid h1
    clear hc hl h1 hA
    go_enter Try.func170, Try.ntmps170
    go_wp2_with (at_builtin; refine wpList_appV _ rfl _ _ _ rfl (fun i => w.heap.size ≤ i) 218 _ 1 24 Try.underlying106 infoRows rfl (by decide) (by decide) _ 0 [] rfl (own_empty (at_new w _) (Nat.le_refl _)) (some ad) n c vs rfl HL.out (fun h => by cases h) ?c1 H1.out ?c2 ?c3 ?_)
    case c1 => exact fun ad' e j u hu => by cases e; exact (Ext.new w _).cell_ (HC.out j u hu)
    case c2 => omega
    case c3 => exact fun i hi => Nat.le_trans (by simp) hi
    intro A2 c2 w2 ho2 hc2
    have HE := Lib.hid ((Ext.new w (.cells #[] 218)).chg hc2 fun i hi => by have hi : some w.heap.size = some i := hi; cases hi; exact Nat.le_refl _)
    have HO := Lib.hid ho2
    clear ho2 hc2
    go_wp2_with fail
    go_ret
    exact ⟨HE.out, A2, c2, by simp, by simpa using HO.out⟩
theorem infoPlace : (Try.prog.info? 118).map (fun i => (i.zero, i.size, i.bytes)) = some (some (.agg #[.int .i64 0, .int .u32 0]), 2, 16) := by kernel_rfl
set_option maxHeartbeats 400000 in
set_option maxRecDepth 100000 in
theorem clonePlace (A : Option Addr) (n c : Nat) (vs : List Value) (w : World) (hl : vs.length = n * 2) (hA : A = none → n = 0) (hc : ∀ ad, A = some ad → ∀ j u, vs[j]? = some u → w.cell? (ad.add j) = some u) (h1 : ∀ u ∈ vs, u.oneCell' = true) (hb : n * 16 ≤ 140737488355328) :
    Calls Try.prog 171 #[.slice A n c] w fun e w' => Ext w w' ∧ ∃ A' c', e = .returned (.slice A' n c') ∧ New w w' 118 2 A' n c' vs := by
  have hq := fun (W : World) (a : Option Addr) (n c n' c' : Nat) => Lib.run_eql_slice_nil (P := Try.prog) W 218 118 a n c n' c' Try.underlying218
  rcases A with _ | ad
  · obtain rfl := hA rfl
    obtain rfl : vs = [] := List.eq_nil_of_length_eq_zero (by simpa using hl)
    go_enter Try.func171, Try.ntmps171
    go_wp2_with fail
    go_ret
    exact ⟨Ext.refl _, none, 0, rfl, Own.nil _ _ _ _⟩
  · have HC := Lib.hid (hc ad rfl)
    have HL := Lib.hid hl
    have H1 := Lib.hid h1
    clear hc hl h1 hA
    go_enter Try.func171, Try.ntmps171
    go_wp2_with (at_builtin; refine wpList_appV _ rfl _ _ _ rfl (fun i => w.heap.size ≤ i) 118 _ 2 16 Try.underlying218 infoPlace rfl (by decide) (by decide) _ 0 [] rfl (own_empty (at_new w _) (Nat.le_refl _)) (some ad) n c vs rfl HL.out (fun h => by cases h) ?c1 H1.out ?c2 ?c3 ?_)
    case c1 => exact fun ad' e j u hu => by cases e; exact (Ext.new w _).cell_ (HC.out j u hu)
    case c2 => omega
    case c3 => exact fun i hi => Nat.le_trans (by simp) hi
    intro A2 c2 w2 ho2 hc2
    have HE := Lib.hid ((Ext.new w (.cells #[] 118)).chg hc2 fun i hi => by have hi : some w.heap.size = some i := hi; cases hi; exact Nat.le_refl _)
    have HO := Lib.hid ho2
    clear ho2 hc2
    go_wp2_with fail
    go_ret
    exact ⟨HE.out, A2, c2, by simp, by simpa using HO.out⟩
end Go.Proofs.Ytfhgjopoohfhjaa.Clones
