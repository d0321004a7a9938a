/- ScriptNames, walked: digits, names, and which steps are the same. -/
import Derived.Test.YtfhgjopoohfhjaaScriptE
import Derived.Test.YtfhgjopoohfhjaaStruct
namespace Go.Proofs.Ytfhgjopoohfhjaa.ScriptW
open Go.RowKit Base Step Vec Script
open ScriptP (L nameI digitsI St parseP)
theorem awake_line : parseP [112, 117, 116, 32, 97, 32, 104, 101, 108, 108, 111, 32, 116, 104, 101, 114, 101] = some ⟨1, [97], [104, 101, 108, 108, 111, 32, 116, 104, 101, 114, 101], 0, 0, 0, 0⟩ := by kernel_rfl
set_option maxRecDepth 100000 in
set_option maxHeartbeats 1600000 in
theorem awake_calls (w : World) : Calls Try.prog 27 #[] w fun e w' => e = .returned (.bool true) ∧ Ext w w' := by
  go_enter Try.func27, Try.ntmps27
  go_wp2_with fail
  refine (parse_calls _ _ (by decide)).mono ?_
  rintro e w1 ⟨he1, h⟩
  rw [show (⟨#[112, 117, 116, 32, 97, 32, 104, 101, 108, 108, 111, 32, 116, 104, 101, 114, 101]⟩ : ByteArray).data.toList = [112, 117, 116, 32, 97, 32, 104, 101, 108, 108, 111, 32, 116, 104, 101, 114, 101] from rfl, awake_line] at h
  obtain ⟨D, n, c, rfl, hr⟩ := h
  have hE := he1.alloc (.cells #[.int .i64 1, .string (S [97]), .slice D n c, .int .i64 0, .int .i64 0, .int .i64 0, .int .u8 0] 46)
  have hs := run_string (P := Try.prog) 22 9 5 c Try.underlying22 Try.underlying5 Try.underlying9 (hr.ext (Ext.new w1 (.cells #[.int .i64 1, .string (S [97]), .slice D n c, .int .i64 0, .int .i64 0, .int .i64 0, .int .u8 0] 46)))
  rw [str_ints] at hs
  dsimp only [stV]
  go_wp2_with fail
  go_ret
  exact ⟨rfl, hE⟩
/-- A step as it came in. -/
def stepS : Shape.Fs := .cons (.int .i64) (.cons .str (.cons (.sl (.int .u8)) (.cons (.int .i64) (.cons (.int .i64) (.cons (.int .i64) (.cons (.int .u8) .nil))))))
abbrev StepD := Int × ByteArray × (Option Addr × Nat × Nat × List Int) × Int × Int × Int × Int × Unit
theorem ints_of : ∀ (xs : List Int), (∀ x ∈ xs, (Lit.int .u8 x).wf = true) → ∃ d : L, ints d = xs
  | [], _ => ⟨[], rfl⟩
  | x :: xs, h => by
    obtain ⟨d, hd⟩ := ints_of xs fun y hy => h y (List.mem_cons_of_mem _ hy)
    obtain ⟨h0, h1⟩ := wf_u8 (h x List.mem_cons_self)
    refine ⟨UInt8.ofNat x.toNat :: d, ?_⟩
    show ((UInt8.ofNat x.toNat).toNat : Int) :: ints d = x :: xs
    rw [hd, UInt8.toNat_ofNat']
    congr 1
    omega
/-- .. is a step of plain data. -/
theorem step_of {w : World} {d : StepD} (h : stepS.ok w d) : ∃ (s : St) (D : Option Addr) (n c : Nat), (.agg (stepS.cells d).toArray : Value) = stV s D n c ∧ Rd w .u8 D n (ints s.data) ∧ n ≤ c ∧ -9223372036854775808 ≤ s.kind ∧ s.kind ≤ 9223372036854775807 ∧ -9223372036854775808 ≤ s.node ∧ s.node ≤ 9223372036854775807 ∧ -9223372036854775808 ≤ s.a ∧ s.a ≤ 9223372036854775807 ∧ -9223372036854775808 ≤ s.b ∧ s.b ≤ 9223372036854775807 ∧ 0 ≤ s.bits ∧ s.bits < 256 ∧ s.name.length ≤ 9223372036854775807 := by
  obtain ⟨k, nm, ⟨D, n, c, xs⟩, x, y, z, b, u⟩ := d
  obtain ⟨h1, h2, h3, h4, h5, h6, h7, _⟩ : (Lit.int .i64 k).wf = true ∧ nm.size ≤ maxLen ∧ (Shape.Sh.sl (.int .u8)).ok w (D, n, c, xs) ∧ (Lit.int .i64 x).wf = true ∧ (Lit.int .i64 y).wf = true ∧ (Lit.int .i64 z).wf = true ∧ (Lit.int .u8 b).wf = true ∧ True := h
  have hr : Rd w .u8 D n xs := Shape.rd_of_ok (c := c) h3
  obtain ⟨d, rfl⟩ := ints_of xs hr.wf
  obtain ⟨k0, k1⟩ := wf_i64 h1
  obtain ⟨x0, x1⟩ := wf_i64 h4
  obtain ⟨y0, y1⟩ := wf_i64 h5
  obtain ⟨z0, z1⟩ := wf_i64 h6
  obtain ⟨b0, b1⟩ := wf_u8 h7
  have hcap : n ≤ c := h3.2.1
  have hnm : nm.data.toList.length ≤ 9223372036854775807 := by simp only [maxLen] at h2; simpa using h2
  exact ⟨⟨k, nm.data.toList, d, x, y, z, b⟩, D, n, c, by rw [show (nm : ByteArray) = S nm.data.toList from S_eq nm]; rfl, hr, hcap, k0, k1, x0, x1, y0, y1, z0, z1, b0, b1, hnm⟩
set_option maxRecDepth 100000 in
set_option maxHeartbeats 4000000 in
theorem names_walk (n : Int) (a b : St) (D1 : Option Addr) (n1 c1 : Nat) (D2 : Option Addr) (n2 c2 : Nat) (w : World) (hn0 : -9223372036854775808 ≤ n) (hn1 : n ≤ 9223372036854775807) (h1 : Rd w .u8 D1 n1 (ints a.data)) (h2 : Rd w .u8 D2 n2 (ints b.data)) (ha : a.name.length ≤ 9223372036854775807) (hb : b.name.length ≤ 9223372036854775807) :
    Calls Try.prog 5 #[.int .i64 n, stV a D1 n1 c1, stV b D2 n2 c2] w fun e w' => e = .returned (.bool true) ∧ Ext w w' := by
  obtain ⟨ak, am, ad, ax, ay, az, ab⟩ := a
  obtain ⟨bk, bm, bd, bx, by_, bz, bb⟩ := b
  have hl1 := h1.room
  have hl2 := h2.room
  have HE := Lib.hid ((Ext.new w (.cells #[.int .i64 ak, .string (S am), .slice D1 n1 c1, .int .i64 ax, .int .i64 ay, .int .i64 az, .int .u8 ab] 43)).alloc (.cells #[.int .i64 bk, .string (S bm), .slice D2 n2 c2, .int .i64 bx, .int .i64 by_, .int .i64 bz, .int .u8 bb] 43))
  have H1 := Lib.hid h1
  have H2 := Lib.hid h2
  clear h1 h2
  dsimp only [stV] at *
  by_cases hlong : 300 < n1 ∨ 300 < n2 ∨ 300 < am.length ∨ 300 < bm.length
  · by_cases l1 : 300 < n1
    · clear hlong
      go_enter Try.func5, Try.ntmps5
      go_wp2_with fail
      refine (awake_calls _).mono ?_
      rintro e w9 ⟨rfl, he9⟩
      go_wp2_with fail
      go_ret
      exact ⟨rfl, HE.out.trans he9⟩
    · by_cases l2 : 300 < n2
      · clear hlong
        go_enter Try.func5, Try.ntmps5
        go_wp2_with fail
        refine (awake_calls _).mono ?_
        rintro e w9 ⟨rfl, he9⟩
        go_wp2_with fail
        go_ret
        exact ⟨rfl, HE.out.trans he9⟩
      · by_cases l3 : 300 < am.length
        · clear hlong
          go_enter Try.func5, Try.ntmps5
          go_wp2_with fail
          refine (awake_calls _).mono ?_
          rintro e w9 ⟨rfl, he9⟩
          go_wp2_with fail
          go_ret
          exact ⟨rfl, HE.out.trans he9⟩
        · have l4 : 300 < bm.length := by omega
          clear hlong
          go_enter Try.func5, Try.ntmps5
          go_wp2_with fail
          refine (awake_calls _).mono ?_
          rintro e w9 ⟨rfl, he9⟩
          go_wp2_with fail
          go_ret
          exact ⟨rfl, HE.out.trans he9⟩
  · have l1 : n1 ≤ 300 := by omega
    have l2 : n2 ≤ 300 := by omega
    have l3 : am.length ≤ 300 := by omega
    have l4 : bm.length ≤ 300 := by omega
    clear hlong
    go_enter Try.func5, Try.ntmps5
    go_wp2_with fail
    generalize hwa : (w.alloc (.cells #[.int .i64 ak, .string (S am), .slice D1 n1 c1, .int .i64 ax, .int .i64 ay, .int .i64 az, .int .u8 ab] 43)).alloc (.cells #[.int .i64 bk, .string (S bm), .slice D2 n2 c2, .int .i64 bx, .int .i64 by_, .int .i64 bz, .int .u8 bb] 43) = wa at *
    have hA : wa.heap[w.heap.size]? = some (.cells #[.int .i64 ak, .string (S am), .slice D1 n1 c1, .int .i64 ax, .int .i64 ay, .int .i64 az, .int .u8 ab] 43 (0, 0)) := by rw [← hwa]; exact (Ext.new _ _).at_ (at_new _ _)
    have hB : wa.heap[w.heap.size + 1]? = some (.cells #[.int .i64 bk, .string (S bm), .slice D2 n2 c2, .int .i64 bx, .int .i64 by_, .int .i64 bz, .int .u8 bb] 43 (0, 0)) := by rw [← hwa]; have := at_new (w.alloc (.cells #[.int .i64 ak, .string (S am), .slice D1 n1 c1, .int .i64 ax, .int .i64 ay, .int .i64 az, .int .u8 ab] 43)) (.cells #[.int .i64 bk, .string (S bm), .slice D2 n2 c2, .int .i64 bx, .int .i64 by_, .int .i64 bz, .int .u8 bb] 43); simpa using this
    have a0 : ∀ W, Ext wa W → W.cell? ⟨w.heap.size, 0, none⟩ = some (.int .i64 ak) := fun W hW => blk_cell (i := 0) hA hW rfl
    have a1 : ∀ W, Ext wa W → W.cell? ⟨w.heap.size, 1, none⟩ = some (.string (S am)) := fun W hW => blk_cell (i := 1) hA hW rfl
    have a2 : ∀ W, Ext wa W → W.cell? ⟨w.heap.size, 2, none⟩ = some (.slice D1 n1 c1) := fun W hW => blk_cell (i := 2) hA hW rfl
    have a3 : ∀ W, Ext wa W → W.cell? ⟨w.heap.size, 3, none⟩ = some (.int .i64 ax) := fun W hW => blk_cell (i := 3) hA hW rfl
    have a4 : ∀ W, Ext wa W → W.cell? ⟨w.heap.size, 4, none⟩ = some (.int .i64 ay) := fun W hW => blk_cell (i := 4) hA hW rfl
    have a5 : ∀ W, Ext wa W → W.cell? ⟨w.heap.size, 5, none⟩ = some (.int .i64 az) := fun W hW => blk_cell (i := 5) hA hW rfl
    have a6 : ∀ W, Ext wa W → W.cell? ⟨w.heap.size, 6, none⟩ = some (.int .u8 ab) := fun W hW => blk_cell (i := 6) hA hW rfl
    have b0 : ∀ W, Ext wa W → W.cell? ⟨w.heap.size + 1, 0, none⟩ = some (.int .i64 bk) := fun W hW => blk_cell (i := 0) hB hW rfl
    have b1 : ∀ W, Ext wa W → W.cell? ⟨w.heap.size + 1, 1, none⟩ = some (.string (S bm)) := fun W hW => blk_cell (i := 1) hB hW rfl
    have b2 : ∀ W, Ext wa W → W.cell? ⟨w.heap.size + 1, 2, none⟩ = some (.slice D2 n2 c2) := fun W hW => blk_cell (i := 2) hB hW rfl
    have b3 : ∀ W, Ext wa W → W.cell? ⟨w.heap.size + 1, 3, none⟩ = some (.int .i64 bx) := fun W hW => blk_cell (i := 3) hB hW rfl
    have b4 : ∀ W, Ext wa W → W.cell? ⟨w.heap.size + 1, 4, none⟩ = some (.int .i64 by_) := fun W hW => blk_cell (i := 4) hB hW rfl
    have b5 : ∀ W, Ext wa W → W.cell? ⟨w.heap.size + 1, 5, none⟩ = some (.int .i64 bz) := fun W hW => blk_cell (i := 5) hB hW rfl
    have b6 : ∀ W, Ext wa W → W.cell? ⟨w.heap.size + 1, 6, none⟩ = some (.int .u8 bb) := fun W hW => blk_cell (i := 6) hB hW rfl
    have HWA := Lib.hid hwa
    clear hwa hA hB
    refine Lex.wp_region_u [0, 1, 2, 3, 4, 5, 6, 7, 8, 9, 10, 11, 12, 13, 14, 15, 16, 17, 18, 19, 20, 21, 22, 23, 24, 25, 26, 27, 28, 29, 30, 31, 32, 33, 34, 35] [] [(1, .const (.string (S (digitsI n)))), (3, .const (.string (S (digitsI n)))), (7, .const (.string (S (nameI n)))), (9, .const (.string (S (nameI n)))), (15, .const (.string (S (nameI ak)))), (18, .const (.string (S (nameI ak)))), (23, .const (.agg #[.int .i64 ak, .string (S am), .slice D1 n1 c1, .int .i64 ax, .int .i64 ay, .int .i64 az, .int .u8 ab])), (25, .const (.agg #[.int .i64 bk, .string (S bm), .slice D2 n2 c2, .int .i64 bx, .int .i64 by_, .int .i64 bz, .int .u8 bb])), (26, .const (.bool (same ⟨ak, am, ad, ax, ay, az, ab⟩ ⟨bk, bm, bd, bx, by_, bz, bb⟩))), (29, .const (.bool (same ⟨ak, am, ad, ax, ay, az, ab⟩ ⟨bk, bm, bd, bx, by_, bz, bb⟩))), (33, .const (.bool true))] (by kernel_rfl) (by kernel_rfl) (by repeat (first | exact Lex.st_nil | refine Lex.st_cons (by first | exact Lex.nums_st | exact Lex.const_st | exact Lex.such_st | exact Lex.row_st | exact Lex.rowE_st | exact Lex.litR_st | assumption) ?_)) ?_; simp only [Lex.pick, List.getElem?_cons_succ, List.getElem?_cons_zero, List.map_cons, List.map_nil]
    repeat (first | (refine Lex.lexU_skip (by rfl) ?_; simp only [Act.put, List.setIfInBounds_toArray, List.set_cons_zero, List.set_cons_succ]) | (refine Lex.lexU_still (by rfl) (by rfl) (by first | exact Base.Ext.refl | exact Lex.Fill.refl) ?_; apply Exists.intro; refine ⟨fun W hW => ?_, ?_⟩; (have hE := Lex.ext_of_cls hW.1; have hE2 := Lex.ext_drew hE; clear hW; go_simp; try with_reducible rfl); simp only [Act.put, List.setIfInBounds_toArray, List.set_cons_zero, List.set_cons_succ]))
    refine Lex.lexU_loose (by rfl) (by rfl) (fun W hW => ?_) ?_
    · have hE := Lex.ext_drew (Lex.ext_of_cls hW.1)
      clear hW
      go_simp
      refine (digits_calls n W hn0 hn1).mono ?_
      rintro e w9 ⟨rfl, he9⟩
      exact ⟨_, rfl, rfl, he9, trivial⟩
    rintro v rfl
    simp only [Act.put, List.setIfInBounds_toArray, List.set_cons_zero, List.set_cons_succ]
    repeat (first | (refine Lex.lexU_skip (by rfl) ?_; simp only [Act.put, List.setIfInBounds_toArray, List.set_cons_zero, List.set_cons_succ]) | (refine Lex.lexU_still (by rfl) (by rfl) (by first | exact Base.Ext.refl | exact Lex.Fill.refl) ?_; apply Exists.intro; refine ⟨fun W hW => ?_, ?_⟩; (have hE := Lex.ext_of_cls hW.1; have hE2 := Lex.ext_drew hE; clear hW; go_simp; try with_reducible rfl); simp only [Act.put, List.setIfInBounds_toArray, List.set_cons_zero, List.set_cons_succ]))
    refine Lex.lexU_loose (by rfl) (by rfl) (fun W hW => ?_) ?_
    · have hE := Lex.ext_drew (Lex.ext_of_cls hW.1)
      clear hW
      go_simp
      refine (rdigits_calls n W hn1).mono ?_
      rintro e w9 ⟨rfl, he9⟩
      exact ⟨_, rfl, rfl, he9, trivial⟩
    rintro v rfl
    simp only [Act.put, List.setIfInBounds_toArray, List.set_cons_zero, List.set_cons_succ]
    repeat (first | (refine Lex.lexU_skip (by rfl) ?_; simp only [Act.put, List.setIfInBounds_toArray, List.set_cons_zero, List.set_cons_succ]) | (refine Lex.lexU_still (by rfl) (by rfl) (by first | exact Base.Ext.refl | exact Lex.Fill.refl) ?_; apply Exists.intro; refine ⟨fun W hW => ?_, ?_⟩; (have hE := Lex.ext_of_cls hW.1; have hE2 := Lex.ext_drew hE; clear hW; go_simp; try with_reducible rfl); simp only [Act.put, List.setIfInBounds_toArray, List.set_cons_zero, List.set_cons_succ]))
    refine Lex.lexU_loose (by rfl) (by rfl) (fun W hW => ?_) ?_
    · have hE := Lex.ext_drew (Lex.ext_of_cls hW.1)
      clear hW
      go_simp
      refine (name_calls n W).mono ?_
      rintro e w9 ⟨rfl, he9⟩
      exact ⟨_, rfl, rfl, he9, trivial⟩
    rintro v rfl
    simp only [Act.put, List.setIfInBounds_toArray, List.set_cons_zero, List.set_cons_succ]
    repeat (first | (refine Lex.lexU_skip (by rfl) ?_; simp only [Act.put, List.setIfInBounds_toArray, List.set_cons_zero, List.set_cons_succ]) | (refine Lex.lexU_still (by rfl) (by rfl) (by first | exact Base.Ext.refl | exact Lex.Fill.refl) ?_; apply Exists.intro; refine ⟨fun W hW => ?_, ?_⟩; (have hE := Lex.ext_of_cls hW.1; have hE2 := Lex.ext_drew hE; clear hW; go_simp; try with_reducible rfl); simp only [Act.put, List.setIfInBounds_toArray, List.set_cons_zero, List.set_cons_succ]))
    refine Lex.lexU_loose (by rfl) (by rfl) (fun W hW => ?_) ?_
    · have hE := Lex.ext_drew (Lex.ext_of_cls hW.1)
      clear hW
      go_simp
      refine (rname_calls n W).mono ?_
      rintro e w9 ⟨rfl, he9⟩
      exact ⟨_, rfl, rfl, he9, trivial⟩
    rintro v rfl
    simp only [Act.put, List.setIfInBounds_toArray, List.set_cons_zero, List.set_cons_succ]
    repeat (first | (refine Lex.lexU_skip (by rfl) ?_; simp only [Act.put, List.setIfInBounds_toArray, List.set_cons_zero, List.set_cons_succ]) | (refine Lex.lexU_still (by rfl) (by rfl) (by first | exact Base.Ext.refl | exact Lex.Fill.refl) ?_; apply Exists.intro; refine ⟨fun W hW => ?_, ?_⟩; (have hE := Lex.ext_of_cls hW.1; have hE2 := Lex.ext_drew hE; clear hW; go_simp; try with_reducible rfl); simp only [Act.put, List.setIfInBounds_toArray, List.set_cons_zero, List.set_cons_succ]))
    refine Lex.lexU_loose (by rfl) (by rfl) (fun W hW => ?_) ?_
    · have hE := Lex.ext_drew (Lex.ext_of_cls hW.1)
      clear hW
      go_simp
      refine (name_calls ak W).mono ?_
      rintro e w9 ⟨rfl, he9⟩
      exact ⟨_, rfl, rfl, he9, trivial⟩
    rintro v rfl
    simp only [Act.put, List.setIfInBounds_toArray, List.set_cons_zero, List.set_cons_succ]
    repeat (first | (refine Lex.lexU_skip (by rfl) ?_; simp only [Act.put, List.setIfInBounds_toArray, List.set_cons_zero, List.set_cons_succ]) | (refine Lex.lexU_still (by rfl) (by rfl) (by first | exact Base.Ext.refl | exact Lex.Fill.refl) ?_; apply Exists.intro; refine ⟨fun W hW => ?_, ?_⟩; (have hE := Lex.ext_of_cls hW.1; have hE2 := Lex.ext_drew hE; clear hW; go_simp; try with_reducible rfl); simp only [Act.put, List.setIfInBounds_toArray, List.set_cons_zero, List.set_cons_succ]))
    refine Lex.lexU_loose (by rfl) (by rfl) (fun W hW => ?_) ?_
    · have hE := Lex.ext_drew (Lex.ext_of_cls hW.1)
      clear hW
      go_simp
      refine (rname_calls ak W).mono ?_
      rintro e w9 ⟨rfl, he9⟩
      exact ⟨_, rfl, rfl, he9, trivial⟩
    rintro v rfl
    simp only [Act.put, List.setIfInBounds_toArray, List.set_cons_zero, List.set_cons_succ]
    repeat (first | (refine Lex.lexU_skip (by rfl) ?_; simp only [Act.put, List.setIfInBounds_toArray, List.set_cons_zero, List.set_cons_succ]) | (refine Lex.lexU_still (by rfl) (by rfl) (by first | exact Base.Ext.refl | exact Lex.Fill.refl) ?_; apply Exists.intro; refine ⟨fun W hW => ?_, ?_⟩; (have hE := Lex.ext_of_cls hW.1; have hE2 := Lex.ext_drew hE; clear hW; go_simp; try with_reducible rfl); simp only [Act.put, List.setIfInBounds_toArray, List.set_cons_zero, List.set_cons_succ]))
    refine Lex.lexU_loose (by rfl) (by rfl) (fun W hW => ?_) ?_
    · have hE := Lex.ext_drew (Lex.ext_of_cls hW.1)
      clear hW
      go_simp
      refine (to_calls (⟨ak, am, ad, ax, ay, az, ab⟩ : St) D1 n1 c1 W).mono ?_
      rintro e w9 ⟨rfl, he9⟩
      exact ⟨_, rfl, rfl, he9, trivial⟩
    rintro v rfl
    simp only [Act.put, List.setIfInBounds_toArray, List.set_cons_zero, List.set_cons_succ]
    repeat (first | (refine Lex.lexU_skip (by rfl) ?_; simp only [Act.put, List.setIfInBounds_toArray, List.set_cons_zero, List.set_cons_succ]) | (refine Lex.lexU_still (by rfl) (by rfl) (by first | exact Base.Ext.refl | exact Lex.Fill.refl) ?_; apply Exists.intro; refine ⟨fun W hW => ?_, ?_⟩; (have hE := Lex.ext_of_cls hW.1; have hE2 := Lex.ext_drew hE; clear hW; go_simp; try with_reducible rfl); simp only [Act.put, List.setIfInBounds_toArray, List.set_cons_zero, List.set_cons_succ]))
    refine Lex.lexU_loose (by rfl) (by rfl) (fun W hW => ?_) ?_
    · have hE := Lex.ext_drew (Lex.ext_of_cls hW.1)
      clear hW
      go_simp
      refine (to_calls (⟨bk, bm, bd, bx, by_, bz, bb⟩ : St) D2 n2 c2 W).mono ?_
      rintro e w9 ⟨rfl, he9⟩
      exact ⟨_, rfl, rfl, he9, trivial⟩
    rintro v rfl
    simp only [Act.put, List.setIfInBounds_toArray, List.set_cons_zero, List.set_cons_succ]
    repeat (first | (refine Lex.lexU_skip (by rfl) ?_; simp only [Act.put, List.setIfInBounds_toArray, List.set_cons_zero, List.set_cons_succ]) | (refine Lex.lexU_still (by rfl) (by rfl) (by first | exact Base.Ext.refl | exact Lex.Fill.refl) ?_; apply Exists.intro; refine ⟨fun W hW => ?_, ?_⟩; (have hE := Lex.ext_of_cls hW.1; have hE2 := Lex.ext_drew hE; clear hW; go_simp; try with_reducible rfl); simp only [Act.put, List.setIfInBounds_toArray, List.set_cons_zero, List.set_cons_succ]))
    refine Lex.lexU_loose (by rfl) (by rfl) (fun W hW => ?_) ?_
    · have hE := Lex.ext_drew (Lex.ext_of_cls hW.1)
      clear hW
      go_simp
      refine (same_calls (⟨ak, am, ad, ax, ay, az, ab⟩ : St) (⟨bk, bm, bd, bx, by_, bz, bb⟩ : St) D1 n1 c1 D2 n2 c2 W (H1.out.ext (HE.out.trans hE)) (H2.out.ext (HE.out.trans hE))).mono ?_
      rintro e w9 ⟨rfl, he9⟩
      exact ⟨_, rfl, rfl, he9, trivial⟩
    rintro v rfl
    simp only [Act.put, List.setIfInBounds_toArray, List.set_cons_zero, List.set_cons_succ]
    repeat (first | (refine Lex.lexU_skip (by rfl) ?_; simp only [Act.put, List.setIfInBounds_toArray, List.set_cons_zero, List.set_cons_succ]) | (refine Lex.lexU_still (by rfl) (by rfl) (by first | exact Base.Ext.refl | exact Lex.Fill.refl) ?_; apply Exists.intro; refine ⟨fun W hW => ?_, ?_⟩; (have hE := Lex.ext_of_cls hW.1; have hE2 := Lex.ext_drew hE; clear hW; go_simp; try with_reducible rfl); simp only [Act.put, List.setIfInBounds_toArray, List.set_cons_zero, List.set_cons_succ]))
    refine Lex.lexU_loose (by rfl) (by rfl) (fun W hW => ?_) ?_
    · have hE := Lex.ext_drew (Lex.ext_of_cls hW.1)
      clear hW
      go_simp
      refine (rsame_calls (⟨ak, am, ad, ax, ay, az, ab⟩ : St) (⟨bk, bm, bd, bx, by_, bz, bb⟩ : St) D1 n1 c1 D2 n2 c2 W (H1.out.ext (HE.out.trans hE)) (H2.out.ext (HE.out.trans hE))).mono ?_
      rintro e w9 ⟨rfl, he9⟩
      exact ⟨_, rfl, rfl, he9, trivial⟩
    rintro v rfl
    simp only [Act.put, List.setIfInBounds_toArray, List.set_cons_zero, List.set_cons_succ]
    repeat (first | (refine Lex.lexU_skip (by rfl) ?_; simp only [Act.put, List.setIfInBounds_toArray, List.set_cons_zero, List.set_cons_succ]) | (refine Lex.lexU_still (by rfl) (by rfl) (by first | exact Base.Ext.refl | exact Lex.Fill.refl) ?_; apply Exists.intro; refine ⟨fun W hW => ?_, ?_⟩; (have hE := Lex.ext_of_cls hW.1; have hE2 := Lex.ext_drew hE; clear hW; go_simp; try with_reducible rfl); simp only [Act.put, List.setIfInBounds_toArray, List.set_cons_zero, List.set_cons_succ]))
    refine Lex.lexU_loose (by rfl) (by rfl) (fun W hW => ?_) ?_
    · have hE := Lex.ext_drew (Lex.ext_of_cls hW.1)
      clear hW
      go_simp
      refine (awake_calls W).mono ?_
      rintro e w9 ⟨rfl, he9⟩
      exact ⟨_, rfl, rfl, he9, trivial⟩
    rintro v rfl
    simp only [Act.put, List.setIfInBounds_toArray, List.set_cons_zero, List.set_cons_succ]
    repeat (first | (refine Lex.lexU_skip (by rfl) ?_; simp only [Act.put, List.setIfInBounds_toArray, List.set_cons_zero, List.set_cons_succ]) | (refine Lex.lexU_still (by rfl) (by rfl) (by first | exact Base.Ext.refl | exact Lex.Fill.refl) ?_; apply Exists.intro; refine ⟨fun W hW => ?_, ?_⟩; (have hE := Lex.ext_of_cls hW.1; have hE2 := Lex.ext_drew hE; clear hW; go_simp; try with_reducible rfl); simp only [Act.put, List.setIfInBounds_toArray, List.set_cons_zero, List.set_cons_succ]))
    refine Lex.lexU_nil (fun W hW => ?_)
    have hE := Lex.ext_drew (Lex.ext_of_cls hW.1)
    clear hW
    refine Lex.onlyN_intro ?_
    go_wp2_with fail
    go_ret
    exact ⟨rfl, HE.out.trans hE⟩
theorem names_row (n : Int) (da db : StepD) (w : World) (hn : (Lit.int .i64 n).wf = true) (ha : stepS.ok w da) (hb : stepS.ok w db) :
    Calls Try.prog 5 #[.int .i64 n, .agg (stepS.cells da).toArray, .agg (stepS.cells db).toArray] w fun e w' => e = .returned (.bool true) ∧ Ext w w' := by
  obtain ⟨h0, h1⟩ := wf_i64 hn
  obtain ⟨a, D1, n1, c1, e1, r1, _, _, _, _, _, _, _, _, _, _, _, l1⟩ := step_of ha
  obtain ⟨b, D2, n2, c2, e2, r2, _, _, _, _, _, _, _, _, _, _, _, l2⟩ := step_of hb
  rw [e1, e2]
  exact names_walk n a b D1 n1 c1 D2 n2 c2 w h0 h1 r1 r2 l1 l2
end Go.Proofs.Ytfhgjopoohfhjaa.ScriptW
