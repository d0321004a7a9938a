/- VaultNobody, walked. -/
import Derived.Test.YtipmkddcdnbihaaVaultN
import Derived.Test.YtipmkddcdnbihaaVaultK
import Derived.Test.YtipmkddcdnbihaaShape
import Derived.Deep.DeepCutAuto
namespace Go.Proofs.Ytipmkddcdnbihaa.VaultO
open Go.RowKit Base Step Vec MapIs
open VaultP (Sh)
open Vault
abbrev shF : Shape.Fs := .cons (.int .u32) (.cons (.int .u16) (.cons (.int .u16) (.cons (.int .u32) .nil)))
/-- A pointer to a new block. -/
def ptrL (T : TypeId) (C : Array Value) : Lex.Loose := ⟨fun v => ∃ g, v = .pointer (some ⟨g, 0, none⟩), fun v W => ∀ g, v = .pointer (some ⟨g, 0, none⟩) → W.heap[g]? = some (.cells C T (0, 0))⟩
theorem ptrL_st {T : TypeId} {C : Array Value} : ∀ v W W', (ptrL T C).R v W → Ext W W' → (ptrL T C).R v W' := fun _ _ _ h he g e => he.at_ (h g e)
theorem ptrL_mk {W : World} {T : TypeId} {C : Array Value} : (ptrL T C).R (.pointer (some ⟨W.heap.size, 0, none⟩)) (W.alloc (.cells C T)) := fun g e => by
  cases e
  exact at_new _ _
section
variable {P : Program}
/-- A struct is loaded, guarded or not. -/
theorem wpList_load_rowG {ops : Array Oper} {rest : List Oper} {o : Oper} {a : Act} {w : World} {Q : Exit → Act → World → Prop} (hgd : Region.wanted o (yielded ops a.tmps) = true) (ty : TypeId) (x : Operand) (ho : o.op = .load ty x)
    (g : Nat) (hx : a.eval x = .pointer (some ⟨g, 0, none⟩)) (t : TypeId) (cs : Array Value) (fr : Nat × Nat) (d : TypeDesc) (hg : w.heap[g]? = some (.cells cs t fr))
    (hu : P.underlying ty = some d) (hd : (match d with | .struct _ | .array _ _ => true | _ => false) = true) (hi : (P.info? ty).map (·.size) = some cs.size)
    (h : wpList P ops Q rest (a.put o.dst (.agg cs)) w) : wpList P ops Q (o :: rest) a w := by
  refine wpList_step fun K hK => ?_
  rw [if_pos hgd]
  exact wp_load_row ty x ho g hx t cs fr d hg hu hd hi (hK _ _ h)
end
set_option maxRecDepth 100000 in
set_option maxHeartbeats 4000000 in
theorem nobody_walk (a b : Sh) (w : World) (ha : a.Ok) (hb : b.Ok) : Calls Try.prog 11 #[shV a, shV b] w fun e w' => e = .returned (.bool true) ∧ Ext w w' := by
  have HA := Lib.hid ha
  clear ha hb
  have e0 := Lib.hid (Ext.new w (.cells #[.int .u32 a.o, .int .u16 a.st, .int .u16 a.sl, .int .u32 a.g] 111))
  have hb0 := at_new w (.cells #[.int .u32 a.o, .int .u16 a.st, .int .u16 a.sl, .int .u32 a.g] 111)
  have hz0 : (w.alloc (.cells #[.int .u32 a.o, .int .u16 a.st, .int .u16 a.sl, .int .u32 a.g] 111)).heap.size = w.heap.size + 1 := by simp
  go_enter Try.func11, Try.ntmps11
  go_upto_region 1 with fail
  generalize w.alloc (.cells #[.int .u32 a.o, .int .u16 a.st, .int .u16 a.sl, .int .u32 a.g] 111) = w0 at *
  have e1 := Lib.hid (Ext.new w0 (.cells #[.int .u32 b.o, .int .u16 b.st, .int .u16 b.sl, .int .u32 b.g] 111))
  have hb1 := at_new w0 (.cells #[.int .u32 b.o, .int .u16 b.st, .int .u16 b.sl, .int .u32 b.g] 111)
  have hb2 := e1.out.at_ hb0
  rw [hz0] at hb1
  generalize w0.alloc (.cells #[.int .u32 b.o, .int .u16 b.st, .int .u16 b.sl, .int .u32 b.g] 111) = wa at *
  have HE := Lib.hid (e0.out.trans e1.out)
  have B0 := Lib.hid hb2
  have B1 := Lib.hid hb1
  clear hb0 hb1 hb2 hz0 e0 e1
  go_wp2_with fail
  refine (open_nil _).mono ?_
  rintro e w1 ⟨rfl, he1⟩
  have E1 := Lib.hid he1
  have a0 : w1.cell? ⟨w.heap.size, 0, none⟩ = some (.int .u32 a.o) := blk_cell (i := 0) B0.out E1.out rfl
  have a1 : w1.cell? ⟨w.heap.size, 1, none⟩ = some (.int .u16 a.st) := blk_cell (i := 1) B0.out E1.out rfl
  have a2 : w1.cell? ⟨w.heap.size, 2, none⟩ = some (.int .u16 a.sl) := blk_cell (i := 2) B0.out E1.out rfl
  have a3 : w1.cell? ⟨w.heap.size, 3, none⟩ = some (.int .u32 a.g) := blk_cell (i := 3) B0.out E1.out rfl
  clear he1
  go_wp2_with fail
  refine (get_nil a _).mono ?_
  rintro e w2 ⟨rfl, he2⟩
  have E2 := Lib.hid (E1.out.trans he2)
  clear he2 a0 a1 a2 a3
  have hb2 := E2.out.at_ B0.out
  go_wp2_with (refine wpList_load_rowG (by rfl) 111 _ rfl w.heap.size rfl 111 _ (0, 0) _ ((Ext.new _ _).at_ hb2) Try.underlying111 rfl (by kernel_rfl) ?_)
  refine (get_zero _ a _ (at_new _ _) HA.out).mono ?_
  rintro e w3 ⟨rfl, he3⟩
  have E3 := Lib.hid ((E2.out.trans (Ext.new _ _)).trans he3)
  clear he3 hb2
  have a0 : w3.cell? ⟨w.heap.size, 0, none⟩ = some (.int .u32 a.o) := blk_cell (i := 0) B0.out E3.out rfl
  have a1 : w3.cell? ⟨w.heap.size, 1, none⟩ = some (.int .u16 a.st) := blk_cell (i := 1) B0.out E3.out rfl
  have a2 : w3.cell? ⟨w.heap.size, 2, none⟩ = some (.int .u16 a.sl) := blk_cell (i := 2) B0.out E3.out rfl
  have a3 : w3.cell? ⟨w.heap.size, 3, none⟩ = some (.int .u32 a.g) := blk_cell (i := 3) B0.out E3.out rfl
  have b0 : w3.cell? ⟨w.heap.size + 1, 0, none⟩ = some (.int .u32 b.o) := blk_cell (i := 0) B1.out E3.out rfl
  have b1 : w3.cell? ⟨w.heap.size + 1, 1, none⟩ = some (.int .u16 b.st) := blk_cell (i := 1) B1.out E3.out rfl
  have b2 : w3.cell? ⟨w.heap.size + 1, 2, none⟩ = some (.int .u16 b.sl) := blk_cell (i := 2) B1.out E3.out rfl
  have b3 : w3.cell? ⟨w.heap.size + 1, 3, none⟩ = some (.int .u32 b.g) := blk_cell (i := 3) B1.out E3.out rfl
  go_wp2_with fail
  refine (compare_calls a b _).mono ?_
  rintro e w4 ⟨rfl, he4⟩
  have E4 := Lib.hid (E3.out.trans he4)
  clear he4 a0 a1 a2 a3 b0 b1 b2 b3
  have a0 : w4.cell? ⟨w.heap.size, 0, none⟩ = some (.int .u32 a.o) := blk_cell (i := 0) B0.out E4.out rfl
  have a1 : w4.cell? ⟨w.heap.size, 1, none⟩ = some (.int .u16 a.st) := blk_cell (i := 1) B0.out E4.out rfl
  have a2 : w4.cell? ⟨w.heap.size, 2, none⟩ = some (.int .u16 a.sl) := blk_cell (i := 2) B0.out E4.out rfl
  have a3 : w4.cell? ⟨w.heap.size, 3, none⟩ = some (.int .u32 a.g) := blk_cell (i := 3) B0.out E4.out rfl
  have b0 : w4.cell? ⟨w.heap.size + 1, 0, none⟩ = some (.int .u32 b.o) := blk_cell (i := 0) B1.out E4.out rfl
  have b1 : w4.cell? ⟨w.heap.size + 1, 1, none⟩ = some (.int .u16 b.st) := blk_cell (i := 1) B1.out E4.out rfl
  have b2 : w4.cell? ⟨w.heap.size + 1, 2, none⟩ = some (.int .u16 b.sl) := blk_cell (i := 2) B1.out E4.out rfl
  have b3 : w4.cell? ⟨w.heap.size + 1, 3, none⟩ = some (.int .u32 b.g) := blk_cell (i := 3) B1.out E4.out rfl
  have hcmp := cmpS_iff a b
  obtain ⟨n, hn⟩ : ∃ n, n = cmpS a b := ⟨_, rfl⟩
  obtain ⟨p, hp⟩ : ∃ p, p = lessS a b := ⟨_, rfl⟩
  obtain ⟨q, hq⟩ : ∃ q, q = lessS b a := ⟨_, rfl⟩
  rw [← hn, ← hp, ← hq] at hcmp
  rw [← hn]
  have HP := Lib.hid hp
  have HQ := Lib.hid hq
  have HCMP := Lib.hid hcmp
  clear hn hp hq hcmp
  go_upto_region 6 with fail
  go_cut [54] (fun v wx => v = .bool false ∧ Hid (Ext wa wx))
  case first =>
    have hcmp := HCMP.out
    clear HCMP
    rcases hcmp with ⟨rfl, rfl, rfl, hne⟩ | ⟨rfl, rfl, rfl, hne⟩ | ⟨rfl, rfl, rfl, rfl⟩
    · have h1 : ¬ (a.o = b.o ∧ a.st = b.st ∧ a.sl = b.sl ∧ a.g = b.g) := fun ⟨k1, k2, k3, k4⟩ => hne (by obtain ⟨_, _, _, _⟩ := a; obtain ⟨_, _, _, _⟩ := b; cases k1; cases k2; cases k3; cases k4; rfl)
      clear hne
      go_wp2_with fail
      refine (less_calls a b _).mono ?_
      rintro e w5 ⟨rfl, he5⟩
      have E5 := Lib.hid (E4.out.trans he5)
      clear he5
      rw [← HP.out]
      clear a0 a1 a2 a3 b0 b1 b2 b3
      have a0 : w5.cell? ⟨w.heap.size, 0, none⟩ = some (.int .u32 a.o) := blk_cell (i := 0) B0.out E5.out rfl
      have a1 : w5.cell? ⟨w.heap.size, 1, none⟩ = some (.int .u16 a.st) := blk_cell (i := 1) B0.out E5.out rfl
      have a2 : w5.cell? ⟨w.heap.size, 2, none⟩ = some (.int .u16 a.sl) := blk_cell (i := 2) B0.out E5.out rfl
      have a3 : w5.cell? ⟨w.heap.size, 3, none⟩ = some (.int .u32 a.g) := blk_cell (i := 3) B0.out E5.out rfl
      have b0 : w5.cell? ⟨w.heap.size + 1, 0, none⟩ = some (.int .u32 b.o) := blk_cell (i := 0) B1.out E5.out rfl
      have b1 : w5.cell? ⟨w.heap.size + 1, 1, none⟩ = some (.int .u16 b.st) := blk_cell (i := 1) B1.out E5.out rfl
      have b2 : w5.cell? ⟨w.heap.size + 1, 2, none⟩ = some (.int .u16 b.sl) := blk_cell (i := 2) B1.out E5.out rfl
      have b3 : w5.cell? ⟨w.heap.size + 1, 3, none⟩ = some (.int .u32 b.g) := blk_cell (i := 3) B1.out E5.out rfl
      go_wp2_with fail
      refine (less_calls b a _).mono ?_
      rintro e w6 ⟨rfl, he6⟩
      have E6 := Lib.hid (E5.out.trans he6)
      clear he6
      rw [← HQ.out]
      clear a0 a1 a2 a3 b0 b1 b2 b3
      have a0 : w6.cell? ⟨w.heap.size, 0, none⟩ = some (.int .u32 a.o) := blk_cell (i := 0) B0.out E6.out rfl
      have a1 : w6.cell? ⟨w.heap.size, 1, none⟩ = some (.int .u16 a.st) := blk_cell (i := 1) B0.out E6.out rfl
      have a2 : w6.cell? ⟨w.heap.size, 2, none⟩ = some (.int .u16 a.sl) := blk_cell (i := 2) B0.out E6.out rfl
      have a3 : w6.cell? ⟨w.heap.size, 3, none⟩ = some (.int .u32 a.g) := blk_cell (i := 3) B0.out E6.out rfl
      have b0 : w6.cell? ⟨w.heap.size + 1, 0, none⟩ = some (.int .u32 b.o) := blk_cell (i := 0) B1.out E6.out rfl
      have b1 : w6.cell? ⟨w.heap.size + 1, 1, none⟩ = some (.int .u16 b.st) := blk_cell (i := 1) B1.out E6.out rfl
      have b2 : w6.cell? ⟨w.heap.size + 1, 2, none⟩ = some (.int .u16 b.sl) := blk_cell (i := 2) B1.out E6.out rfl
      have b3 : w6.cell? ⟨w.heap.size + 1, 3, none⟩ = some (.int .u32 b.g) := blk_cell (i := 3) B1.out E6.out rfl
      go_wp2_with fail
      all_goals (go_meet; exact ⟨rfl, E6⟩)
    · have h1 : ¬ (a.o = b.o ∧ a.st = b.st ∧ a.sl = b.sl ∧ a.g = b.g) := fun ⟨k1, k2, k3, k4⟩ => hne (by obtain ⟨_, _, _, _⟩ := a; obtain ⟨_, _, _, _⟩ := b; cases k1; cases k2; cases k3; cases k4; rfl)
      clear hne
      go_wp2_with fail
      refine (less_calls a b _).mono ?_
      rintro e w5 ⟨rfl, he5⟩
      have E5 := Lib.hid (E4.out.trans he5)
      clear he5
      rw [← HP.out]
      clear a0 a1 a2 a3 b0 b1 b2 b3
      have a0 : w5.cell? ⟨w.heap.size, 0, none⟩ = some (.int .u32 a.o) := blk_cell (i := 0) B0.out E5.out rfl
      have a1 : w5.cell? ⟨w.heap.size, 1, none⟩ = some (.int .u16 a.st) := blk_cell (i := 1) B0.out E5.out rfl
      have a2 : w5.cell? ⟨w.heap.size, 2, none⟩ = some (.int .u16 a.sl) := blk_cell (i := 2) B0.out E5.out rfl
      have a3 : w5.cell? ⟨w.heap.size, 3, none⟩ = some (.int .u32 a.g) := blk_cell (i := 3) B0.out E5.out rfl
      have b0 : w5.cell? ⟨w.heap.size + 1, 0, none⟩ = some (.int .u32 b.o) := blk_cell (i := 0) B1.out E5.out rfl
      have b1 : w5.cell? ⟨w.heap.size + 1, 1, none⟩ = some (.int .u16 b.st) := blk_cell (i := 1) B1.out E5.out rfl
      have b2 : w5.cell? ⟨w.heap.size + 1, 2, none⟩ = some (.int .u16 b.sl) := blk_cell (i := 2) B1.out E5.out rfl
      have b3 : w5.cell? ⟨w.heap.size + 1, 3, none⟩ = some (.int .u32 b.g) := blk_cell (i := 3) B1.out E5.out rfl
      go_wp2_with fail
      refine (less_calls b a _).mono ?_
      rintro e w6 ⟨rfl, he6⟩
      have E6 := Lib.hid (E5.out.trans he6)
      clear he6
      rw [← HQ.out]
      clear a0 a1 a2 a3 b0 b1 b2 b3
      have a0 : w6.cell? ⟨w.heap.size, 0, none⟩ = some (.int .u32 a.o) := blk_cell (i := 0) B0.out E6.out rfl
      have a1 : w6.cell? ⟨w.heap.size, 1, none⟩ = some (.int .u16 a.st) := blk_cell (i := 1) B0.out E6.out rfl
      have a2 : w6.cell? ⟨w.heap.size, 2, none⟩ = some (.int .u16 a.sl) := blk_cell (i := 2) B0.out E6.out rfl
      have a3 : w6.cell? ⟨w.heap.size, 3, none⟩ = some (.int .u32 a.g) := blk_cell (i := 3) B0.out E6.out rfl
      have b0 : w6.cell? ⟨w.heap.size + 1, 0, none⟩ = some (.int .u32 b.o) := blk_cell (i := 0) B1.out E6.out rfl
      have b1 : w6.cell? ⟨w.heap.size + 1, 1, none⟩ = some (.int .u16 b.st) := blk_cell (i := 1) B1.out E6.out rfl
      have b2 : w6.cell? ⟨w.heap.size + 1, 2, none⟩ = some (.int .u16 b.sl) := blk_cell (i := 2) B1.out E6.out rfl
      have b3 : w6.cell? ⟨w.heap.size + 1, 3, none⟩ = some (.int .u32 b.g) := blk_cell (i := 3) B1.out E6.out rfl
      go_wp2_with fail
      all_goals (go_meet; exact ⟨rfl, E6⟩)
    · skip
      go_wp2_with fail
      refine (less_calls a a _).mono ?_
      rintro e w5 ⟨rfl, he5⟩
      have E5 := Lib.hid (E4.out.trans he5)
      clear he5
      rw [← HP.out]
      clear a0 a1 a2 a3 b0 b1 b2 b3
      have a0 : w5.cell? ⟨w.heap.size, 0, none⟩ = some (.int .u32 a.o) := blk_cell (i := 0) B0.out E5.out rfl
      have a1 : w5.cell? ⟨w.heap.size, 1, none⟩ = some (.int .u16 a.st) := blk_cell (i := 1) B0.out E5.out rfl
      have a2 : w5.cell? ⟨w.heap.size, 2, none⟩ = some (.int .u16 a.sl) := blk_cell (i := 2) B0.out E5.out rfl
      have a3 : w5.cell? ⟨w.heap.size, 3, none⟩ = some (.int .u32 a.g) := blk_cell (i := 3) B0.out E5.out rfl
      have b0 : w5.cell? ⟨w.heap.size + 1, 0, none⟩ = some (.int .u32 a.o) := blk_cell (i := 0) B1.out E5.out rfl
      have b1 : w5.cell? ⟨w.heap.size + 1, 1, none⟩ = some (.int .u16 a.st) := blk_cell (i := 1) B1.out E5.out rfl
      have b2 : w5.cell? ⟨w.heap.size + 1, 2, none⟩ = some (.int .u16 a.sl) := blk_cell (i := 2) B1.out E5.out rfl
      have b3 : w5.cell? ⟨w.heap.size + 1, 3, none⟩ = some (.int .u32 a.g) := blk_cell (i := 3) B1.out E5.out rfl
      go_wp2_with fail
      refine (less_calls a a _).mono ?_
      rintro e w6 ⟨rfl, he6⟩
      have E6 := Lib.hid (E5.out.trans he6)
      clear he6
      rw [← HQ.out]
      clear a0 a1 a2 a3 b0 b1 b2 b3
      have a0 : w6.cell? ⟨w.heap.size, 0, none⟩ = some (.int .u32 a.o) := blk_cell (i := 0) B0.out E6.out rfl
      have a1 : w6.cell? ⟨w.heap.size, 1, none⟩ = some (.int .u16 a.st) := blk_cell (i := 1) B0.out E6.out rfl
      have a2 : w6.cell? ⟨w.heap.size, 2, none⟩ = some (.int .u16 a.sl) := blk_cell (i := 2) B0.out E6.out rfl
      have a3 : w6.cell? ⟨w.heap.size, 3, none⟩ = some (.int .u32 a.g) := blk_cell (i := 3) B0.out E6.out rfl
      have b0 : w6.cell? ⟨w.heap.size + 1, 0, none⟩ = some (.int .u32 a.o) := blk_cell (i := 0) B1.out E6.out rfl
      have b1 : w6.cell? ⟨w.heap.size + 1, 1, none⟩ = some (.int .u16 a.st) := blk_cell (i := 1) B1.out E6.out rfl
      have b2 : w6.cell? ⟨w.heap.size + 1, 2, none⟩ = some (.int .u16 a.sl) := blk_cell (i := 2) B1.out E6.out rfl
      have b3 : w6.cell? ⟨w.heap.size + 1, 3, none⟩ = some (.int .u32 a.g) := blk_cell (i := 3) B1.out E6.out rfl
      go_wp2_with fail
      all_goals (go_meet; exact ⟨rfl, E6⟩)
  case rest =>
    obtain ⟨rfl, E6⟩ := hcut
    clear HP HQ HCMP E1 E2 E3 E4 a0 a1 a2 a3 b0 b1 b2 b3
    go_wp2_with fail
    refine (len_nilV _).mono ?_
    rintro e w7 ⟨rfl, he7⟩
    have E7 := Lib.hid (E6.out.trans he7)
    clear he7
    go_wp2_with fail
    refine (list_nil _).mono ?_
    rintro e w8 ⟨rfl, he8⟩
    have E8 := Lib.hid (E7.out.trans he8)
    clear he8
    have a0 : w8.cell? ⟨w.heap.size, 0, none⟩ = some (.int .u32 a.o) := blk_cell (i := 0) B0.out E8.out rfl
    have a1 : w8.cell? ⟨w.heap.size, 1, none⟩ = some (.int .u16 a.st) := blk_cell (i := 1) B0.out E8.out rfl
    have a2 : w8.cell? ⟨w.heap.size, 2, none⟩ = some (.int .u16 a.sl) := blk_cell (i := 2) B0.out E8.out rfl
    have a3 : w8.cell? ⟨w.heap.size, 3, none⟩ = some (.int .u32 a.g) := blk_cell (i := 3) B0.out E8.out rfl
    go_wp2_with fail
    refine (has_nil a _).mono ?_
    rintro e w9 ⟨rfl, he9⟩
    have E9 := Lib.hid (E8.out.trans he9)
    clear he9
    clear a0 a1 a2 a3
    have a0 : w9.cell? ⟨w.heap.size, 0, none⟩ = some (.int .u32 a.o) := blk_cell (i := 0) B0.out E9.out rfl
    have a1 : w9.cell? ⟨w.heap.size, 1, none⟩ = some (.int .u16 a.st) := blk_cell (i := 1) B0.out E9.out rfl
    have a2 : w9.cell? ⟨w.heap.size, 2, none⟩ = some (.int .u16 a.sl) := blk_cell (i := 2) B0.out E9.out rfl
    have a3 : w9.cell? ⟨w.heap.size, 3, none⟩ = some (.int .u32 a.g) := blk_cell (i := 3) B0.out E9.out rfl
    go_wp2_with fail
    refine (cell_nil a _).mono ?_
    rintro e w10 ⟨rfl, he10⟩
    have E10 := Lib.hid (E9.out.trans he10)
    clear he10
    clear a0 a1 a2 a3
    have a0 : w10.cell? ⟨w.heap.size, 0, none⟩ = some (.int .u32 a.o) := blk_cell (i := 0) B0.out E10.out rfl
    have a1 : w10.cell? ⟨w.heap.size, 1, none⟩ = some (.int .u16 a.st) := blk_cell (i := 1) B0.out E10.out rfl
    have a2 : w10.cell? ⟨w.heap.size, 2, none⟩ = some (.int .u16 a.sl) := blk_cell (i := 2) B0.out E10.out rfl
    have a3 : w10.cell? ⟨w.heap.size, 3, none⟩ = some (.int .u32 a.g) := blk_cell (i := 3) B0.out E10.out rfl
    go_wp2_with fail
    refine (begin_nil a _).mono ?_
    rintro e w11 ⟨rfl, he11⟩
    have E11 := Lib.hid (E10.out.trans he11)
    clear he11
    clear a0 a1 a2 a3
    have a0 : w11.cell? ⟨w.heap.size, 0, none⟩ = some (.int .u32 a.o) := blk_cell (i := 0) B0.out E11.out rfl
    have a1 : w11.cell? ⟨w.heap.size, 1, none⟩ = some (.int .u16 a.st) := blk_cell (i := 1) B0.out E11.out rfl
    have a2 : w11.cell? ⟨w.heap.size, 2, none⟩ = some (.int .u16 a.sl) := blk_cell (i := 2) B0.out E11.out rfl
    have a3 : w11.cell? ⟨w.heap.size, 3, none⟩ = some (.int .u32 a.g) := blk_cell (i := 3) B0.out E11.out rfl
    go_wp2_with fail
    refine (put_nil a _).mono ?_
    rintro e w12 ⟨rfl, he12⟩
    have E12 := Lib.hid (E11.out.trans he12)
    clear he12
    clear a0 a1 a2 a3
    have a0 : w12.cell? ⟨w.heap.size, 0, none⟩ = some (.int .u32 a.o) := blk_cell (i := 0) B0.out E12.out rfl
    have a1 : w12.cell? ⟨w.heap.size, 1, none⟩ = some (.int .u16 a.st) := blk_cell (i := 1) B0.out E12.out rfl
    have a2 : w12.cell? ⟨w.heap.size, 2, none⟩ = some (.int .u16 a.sl) := blk_cell (i := 2) B0.out E12.out rfl
    have a3 : w12.cell? ⟨w.heap.size, 3, none⟩ = some (.int .u32 a.g) := blk_cell (i := 3) B0.out E12.out rfl
    go_wp2_with fail
    refine (drop_nil a _).mono ?_
    rintro e w13 ⟨rfl, he13⟩
    have E13 := Lib.hid (E12.out.trans he13)
    clear he13
    clear a0 a1 a2 a3
    have hb2 := E13.out.at_ B0.out
    go_wp2_with (refine wpList_load_rowG (by rfl) 111 _ rfl w.heap.size rfl 111 _ (0, 0) _ ((Ext.new _ _).at_ hb2) Try.underlying111 rfl (by kernel_rfl) ?_)
    refine (begin_zero _ a _ (at_new _ _)).mono ?_
    rintro e w14 ⟨rfl, he14⟩
    have E14 := Lib.hid ((E13.out.trans (Ext.new _ _)).trans he14)
    clear he14 hb2
    have hb2 := E14.out.at_ B0.out
    go_wp2_with (refine wpList_load_rowG (by rfl) 111 _ rfl w.heap.size rfl 111 _ (0, 0) _ ((Ext.new _ _).at_ hb2) Try.underlying111 rfl (by kernel_rfl) ?_)
    refine (put_zero _ a _ (at_new _ _)).mono ?_
    rintro e w15 ⟨rfl, he15⟩
    have E15 := Lib.hid ((E14.out.trans (Ext.new _ _)).trans he15)
    clear he15 hb2
    have hb2 := E15.out.at_ B0.out
    go_wp2_with (refine wpList_load_rowG (by rfl) 111 _ rfl w.heap.size rfl 111 _ (0, 0) _ ((Ext.new _ _).at_ hb2) Try.underlying111 rfl (by kernel_rfl) ?_)
    refine (drop_zero _ a _ (at_new _ _)).mono ?_
    rintro e w16 ⟨rfl, he16⟩
    have E16 := Lib.hid ((E15.out.trans (Ext.new _ _)).trans he16)
    clear he16 hb2
    go_wp2_with fail
    refine (awake_calls _).mono ?_
    rintro e w17 ⟨rfl, he17⟩
    have E17 := Lib.hid (E16.out.trans he17)
    clear he17
    go_wp2_with fail
    go_ret
    exact ⟨rfl, HE.out.trans E17.out⟩
theorem nobody_row (da db : shF.T) (w : World) (ha : shF.ok w da) (hb : shF.ok w db) : Calls Try.prog 11 #[.agg (shF.cells da).toArray, .agg (shF.cells db).toArray] w fun e w' => e = .returned (.bool true) ∧ Ext w w' := by
  obtain ⟨o, st, sl, g, u⟩ := da
  obtain ⟨k0, k1, k2, k3, _⟩ : (Lit.int .u32 o).wf = true ∧ (Lit.int .u16 st).wf = true ∧ (Lit.int .u16 sl).wf = true ∧ (Lit.int .u32 g).wf = true ∧ True := ha
  obtain ⟨o', st', sl', g', u'⟩ := db
  obtain ⟨l0, l1, l2, l3, _⟩ : (Lit.int .u32 o').wf = true ∧ (Lit.int .u16 st').wf = true ∧ (Lit.int .u16 sl').wf = true ∧ (Lit.int .u32 g').wf = true ∧ True := hb
  exact nobody_walk ⟨o, st, sl, g⟩ ⟨o', st', sl', g'⟩ w ⟨(wf_u32 k0).1, (wf_u32 k0).2, (wf_u16 k1).1, (wf_u16 k1).2, (wf_u16 k2).1, (wf_u16 k2).2, (wf_u32 k3).1, (wf_u32 k3).2⟩ ⟨(wf_u32 l0).1, (wf_u32 l0).2, (wf_u16 l1).1, (wf_u16 l1).2, (wf_u16 l2).1, (wf_u16 l2).2, (wf_u32 l3).1, (wf_u32 l3).2⟩
end Go.Proofs.Ytipmkddcdnbihaa.VaultO
