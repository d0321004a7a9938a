/- A shard's name written, walked. -/
import Derived.Test.YtipmkddcdnbihaaVaultC
import Derived.Test.YtipmkddcdnbihaaLexC
import Derived.Test.YtipmkddcdnbihaaFill
namespace Go.Proofs.Ytipmkddcdnbihaa.Vault
open Go.RowKit Base Step
open VaultP (Sh shOf nameB)
/-- A writer under way, beside a block that it does not write. -/
def WStage (S : Nat → Prop) (g b : Nat) (xs : List Int) (W : World) : Prop := Pack.Writer W (fun i => S i ∧ i ≠ b) g xs ∧ (∀ i, W.heap.size ≤ i → S i) ∧ b < W.heap.size
theorem num_stage {W : World} {S : Nat → Prop} {g b : Nat} {xs : List Int} (h : WStage S g b xs W) (n size : Int) (h0 : 0 ≤ size) (h8 : size ≤ 8) (hn0 : 0 ≤ n) (hn1 : n < 18446744073709551616) (hx : xs.length ≤ 1099511627776) :
    Calls Try.prog 99 #[.pointer (some ⟨g, 0, none⟩), .int .u64 n, .int .i64 size] W fun e W' => e = .returned (.pointer (some ⟨g, 0, none⟩)) ∧ Chg (fun i => S i ∧ i ≠ b) W W' ∧ WStage S g b (xs ++ Le.le size.toNat n) W' :=
  (Pack.num_calls (fun i => S i ∧ i ≠ b) g xs n size W (fun i hi => ⟨h.2.1 i hi, by have := h.2.2; omega⟩) h.1 h0 h8 hn0 hn1 hx).mono fun e W' ⟨h1, h2, h3⟩ =>
    ⟨h1, h3, h2, fun i hi => h.2.1 i (Nat.le_trans h3.size hi), Nat.lt_of_lt_of_le h.2.2 h3.size⟩
/-- A name's beginnings. -/
def nameUpto (s : Sh) : Nat → List Int
  | 0 => []
  | 1 => Le.le 4 s.o
  | 2 => Le.le 4 s.o ++ Le.le 2 s.st
  | 3 => Le.le 4 s.o ++ Le.le 2 s.st ++ Le.le 2 s.sl
  | _ => nameB s
theorem nameUpto_le (s : Sh) (k : Nat) : (nameUpto s k).length ≤ 12 := by
  unfold nameUpto
  split <;> simp [nameB, Le.le_length]
theorem num_upto {W : World} {S : Nat → Prop} {g b : Nat} {xs : List Int} {s : Sh} (k : Nat) (n size : Int) (he : nameUpto s (k + 1) = nameUpto s k ++ Le.le size.toNat n) (hx : xs.length ≤ 1099511627000) (h0 : 0 ≤ size) (h8 : size ≤ 8) (hn0 : 0 ≤ n) (hn1 : n < 18446744073709551616) (h : WStage S g b (xs ++ nameUpto s k) W) :
    Calls Try.prog 99 #[.pointer (some ⟨g, 0, none⟩), .int .u64 n, .int .i64 size] W fun e W' => e = .returned (.pointer (some ⟨g, 0, none⟩)) ∧ Chg (fun i => S i ∧ i ≠ b) W W' ∧ WStage S g b (xs ++ nameUpto s (k + 1)) W' := by
  rw [he, ← List.append_assoc]
  exact num_stage h n size h0 h8 hn0 hn1 (by rw [List.length_append]; have := nameUpto_le s k; omega)
theorem stage_start {w : World} {S : Nat → Prop} {g : Nat} {xs : List Int} (o : Obj) (hS : ∀ i, w.heap.size ≤ i → S i) (hw : Pack.Writer w S g xs) : WStage S g w.heap.size xs (w.alloc o).drew := by
  obtain ⟨A, n, c, h⟩ := hw
  have hE := Ext.new w o
  refine ⟨⟨A, n, c, hE.at_ h.at_, ?_, ⟨h.foot, by have := Pack.lt_of_at h.at_; omega⟩, h.wf⟩, fun i hi => hS i (Nat.le_trans (by simp) hi), by simp⟩
  have := (h.own.mono (S' := fun i => S i ∧ i ≠ w.heap.size) fun i hi k => ⟨k, by omega⟩)
  exact this.extNew hE.drew
set_option maxRecDepth 100000 in
set_option maxHeartbeats 4000000 in
theorem wshard_calls (S : Nat → Prop) (g : Nat) (xs : List Int) (s : Sh) (w : World) (hs : s.Ok) (hS : ∀ i, w.heap.size ≤ i → S i) (hw : Pack.Writer w S g xs) (hx : xs.length ≤ 1099511627000) :
    Calls Try.prog 183 #[.pointer (some ⟨g, 0, none⟩), shV s] w fun e w' => e = .returned (.pointer (some ⟨g, 0, none⟩)) ∧ Pack.Writer w' S g (xs ++ nameB s) ∧ Chg S w w' := by
  have hst := Lib.hid (stage_start (.cells #[.int .u32 s.o, .int .u16 s.st, .int .u16 s.sl, .int .u32 s.g] 111) hS hw)
  have hb := at_new w (.cells #[.int .u32 s.o, .int .u16 s.st, .int .u16 s.sl, .int .u32 s.g] 111)
  have H := Lib.hid hs
  have HX := Lib.hid hx
  have HC := Lib.hid (((Chg.refl S w).alloc (.cells #[.int .u32 s.o, .int .u16 s.st, .int .u16 s.sl, .int .u32 s.g] 111)).drew)
  clear hw hs hS hx
  obtain ⟨w0, hw0⟩ : ∃ w0, w0 = w.alloc (.cells #[.int .u32 s.o, .int .u16 s.st, .int .u16 s.sl, .int .u32 s.g] 111) := ⟨_, rfl⟩
  rw [← hw0] at hst hb HC
  have hc : ∀ i v, (#[Value.int .u32 s.o, .int .u16 s.st, .int .u16 s.sl, .int .u32 s.g] : Array Value)[i]? = some v → ∀ W, Chg (fun i => S i ∧ i ≠ w.heap.size) w0.drew W → W.cell? ⟨w.heap.size, i, none⟩ = some v := fun i v hv W hW => by
    have h1 := hW.at_ (i := w.heap.size) (show w0.drew.heap[w.heap.size]? = _ from hb) (fun k => k.2 rfl)
    exact blk_cell h1 (Ext.refl _) hv
  have c0 := hc 0 _ rfl
  have c1 := hc 1 _ rfl
  have c2 := hc 2 _ rfl
  have c3 := hc 3 _ rfl
  have W0 : IntKind.u64.wrap s.o = s.o := IntWalk.u64_in _ (by have := H.out.o0; have := H.out.o1; omega)
  have W1 : IntKind.u64.wrap s.st = s.st := IntWalk.u64_in _ (by have := H.out.st0; have := H.out.st1; omega)
  have W2 : IntKind.u64.wrap s.sl = s.sl := IntWalk.u64_in _ (by have := H.out.sl0; have := H.out.sl1; omega)
  have W3 : IntKind.u64.wrap s.g = s.g := IntWalk.u64_in _ (by have := H.out.g0; have := H.out.g1; omega)
  go_enter Try.func183, Try.ntmps183
  go_wp2_with fail
  rw [← hw0]
  clear hw0 hb hc
  refine Lex.wp_region_c [0, 1, 2, 3, 4, 5, 6, 7, 8, 9, 10, 11, 12, 13, 14, 15, 16, 17] [] (fun i => S i ∧ i ≠ w.heap.size) [4, 8, 12, 16] (fun _ => .pointer (some ⟨g, 0, none⟩)) (fun k => WStage S g w.heap.size (xs ++ nameUpto s k)) (by kernel_rfl) (by kernel_rfl) (by rw [show nameUpto s 0 = [] from rfl, List.append_nil]; exact hst.out) ?_; simp only [Lex.pick, List.getElem?_cons_succ, List.getElem?_cons_zero, List.map_cons, List.map_nil]
  repeat (first | (refine Lex.lexC_skip (by rfl) (by rfl) ?_; simp only [Act.put, List.setIfInBounds_toArray, List.set_cons_zero, List.set_cons_succ]) | (refine Lex.lexC_still (by rfl) (by rfl) (by rfl) (fun _ => rfl) ?_; apply Exists.intro; refine ⟨fun W hW => ?_, ?_⟩; (have hE := hW.1; clear hW; go_simp; with_reducible rfl); simp only [Act.put, List.setIfInBounds_toArray, List.set_cons_zero, List.set_cons_succ]))
  refine Lex.lexC_chain (by rfl) (by rfl) (fun W hW hI => ?_) ?_
  · go_simp
    exact num_upto 0 s.o 4 rfl HX.out (by decide) (by decide) (H.out.o0) (by have := H.out.o1; omega) hI
  simp only [Act.put, List.setIfInBounds_toArray, List.set_cons_zero, List.set_cons_succ]
  repeat (first | (refine Lex.lexC_skip (by rfl) (by rfl) ?_; simp only [Act.put, List.setIfInBounds_toArray, List.set_cons_zero, List.set_cons_succ]) | (refine Lex.lexC_still (by rfl) (by rfl) (by rfl) (fun _ => rfl) ?_; apply Exists.intro; refine ⟨fun W hW => ?_, ?_⟩; (have hE := hW.1; clear hW; go_simp; with_reducible rfl); simp only [Act.put, List.setIfInBounds_toArray, List.set_cons_zero, List.set_cons_succ]))
  refine Lex.lexC_chain (by rfl) (by rfl) (fun W hW hI => ?_) ?_
  · go_simp
    exact num_upto 1 s.st 2 rfl HX.out (by decide) (by decide) (H.out.st0) (by have := H.out.st1; omega) hI
  simp only [Act.put, List.setIfInBounds_toArray, List.set_cons_zero, List.set_cons_succ]
  repeat (first | (refine Lex.lexC_skip (by rfl) (by rfl) ?_; simp only [Act.put, List.setIfInBounds_toArray, List.set_cons_zero, List.set_cons_succ]) | (refine Lex.lexC_still (by rfl) (by rfl) (by rfl) (fun _ => rfl) ?_; apply Exists.intro; refine ⟨fun W hW => ?_, ?_⟩; (have hE := hW.1; clear hW; go_simp; with_reducible rfl); simp only [Act.put, List.setIfInBounds_toArray, List.set_cons_zero, List.set_cons_succ]))
  refine Lex.lexC_chain (by rfl) (by rfl) (fun W hW hI => ?_) ?_
  · go_simp
    exact num_upto 2 s.sl 2 rfl HX.out (by decide) (by decide) (H.out.sl0) (by have := H.out.sl1; omega) hI
  simp only [Act.put, List.setIfInBounds_toArray, List.set_cons_zero, List.set_cons_succ]
  repeat (first | (refine Lex.lexC_skip (by rfl) (by rfl) ?_; simp only [Act.put, List.setIfInBounds_toArray, List.set_cons_zero, List.set_cons_succ]) | (refine Lex.lexC_still (by rfl) (by rfl) (by rfl) (fun _ => rfl) ?_; apply Exists.intro; refine ⟨fun W hW => ?_, ?_⟩; (have hE := hW.1; clear hW; go_simp; with_reducible rfl); simp only [Act.put, List.setIfInBounds_toArray, List.set_cons_zero, List.set_cons_succ]))
  refine Lex.lexC_chain (by rfl) (by rfl) (fun W hW hI => ?_) ?_
  · go_simp
    exact num_upto 3 s.g 4 rfl HX.out (by decide) (by decide) (H.out.g0) (by have := H.out.g1; omega) hI
  simp only [Act.put, List.setIfInBounds_toArray, List.set_cons_zero, List.set_cons_succ]
  repeat (first | (refine Lex.lexC_skip (by rfl) (by rfl) ?_; simp only [Act.put, List.setIfInBounds_toArray, List.set_cons_zero, List.set_cons_succ]) | (refine Lex.lexC_still (by rfl) (by rfl) (by rfl) (fun _ => rfl) ?_; apply Exists.intro; refine ⟨fun W hW => ?_, ?_⟩; (have hE := hW.1; clear hW; go_simp; with_reducible rfl); simp only [Act.put, List.setIfInBounds_toArray, List.set_cons_zero, List.set_cons_succ]))
  refine Lex.lexC_nil (fun W hW hI => ?_)
  have hE := Lib.hid hW.1
  have HI : Hid (WStage S g w.heap.size (xs ++ nameB s) W) := Lib.hid hI
  clear hW hI
  refine Lex.onlyN_intro ?_
  go_wp2_with fail
  go_ret
  obtain ⟨⟨A, n, c, h1⟩, _, _⟩ := HI.out
  exact ⟨rfl, ⟨A, n, c, h1.at_, h1.own.mono fun _ _ k => k.1, h1.foot.1, h1.wf⟩, HC.out.trans (hE.out.mono fun _ _ k => k.1)⟩
end Go.Proofs.Ytipmkddcdnbihaa.Vault
