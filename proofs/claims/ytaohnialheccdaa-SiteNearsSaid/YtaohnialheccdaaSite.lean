import Derived.Test.YtaohnialheccdaaProg
import Derived.WalkKit
import Derived.KernelRfl
import Derived.Lib.Hide
import Derived.Lib.SlBytesConst
import Derived.Test.YtaohnialheccdaaBase
import Derived.Test.YtaohnialheccdaaFloat
import Derived.WalkLawsBesides
import Derived.Laws.ComplexArith
namespace Go.Proofs.Ytaohnialheccdaa.Site
open Go.RowKit Base
abbrev F (n : Int) : Nat := floatOfInt .f64 n
def near (x : Int) : Prop := -1048576 ≤ x ∧ x ≤ 1048576
theorem at_calls (x y : Int) (w : World) (hx : near x) (hy : near y) :
    Calls Try.prog 19 #[.int .i64 x, .int .i64 y] w fun e w' => e = .returned (.tuple #[.complex .f64 (F x) (F y), .int .i64 0]) ∧ w = w' := by
  obtain ⟨hx0, hx1⟩ := hx
  obtain ⟨hy0, hy1⟩ := hy
  go_enter Try.func19, Try.ntmps19
  go_wp2_with fail
  exact bodyPost_ret (v := .tuple #[.complex .f64 (F x) (F y), .int .i64 0]) (by simp [results, Try.results19, go_sem]) rfl ⟨rfl, rfl⟩
theorem at_none (x y : Int) (w : World) (h : ¬ (near x ∧ near y)) :
    Calls Try.prog 19 #[.int .i64 x, .int .i64 y] w fun e w' => e = .returned (.tuple #[.complex .f64 0 0, .int .i64 1]) ∧ w = w' := by
  have h : x < -1048576 ∨ 1048576 < x ∨ y < -1048576 ∨ 1048576 < y := by unfold near at h; omega
  rcases h with h | h | h | h
  all_goals
    go_enter Try.func19, Try.ntmps19
    go_wp2_with fail
    all_goals exact bodyPost_ret (v := .tuple #[.complex .f64 0 0, .int .i64 1]) (by simp [results, Try.results19, go_sem]) rfl ⟨rfl, rfl⟩
set_option maxRecDepth 100000 in
theorem parts_calls (a b : Nat) (x y : Int) (w : World) (h1 : floatToIntVal .f64 a .i64 = some x) (h2 : floatToIntVal .f64 b .i64 = some y) :
    Calls Try.prog 64 #[.complex .f64 a b] w fun e w' => e = .returned (.tuple #[.int .i64 x, .int .i64 y]) ∧ w = w' := by
  have u1 : (Try.prog.underlying 111).isSome = true := by rw [Try.underlying111]; rfl
  have c1 := run_convert_float_int (P := Try.prog) w 111 3 .f64 .i64 a x u1 Try.underlying3 h1
  have c2 := run_convert_float_int (P := Try.prog) w 111 3 .f64 .i64 b y u1 Try.underlying3 h2
  clear h1 h2
  go_enter Try.func64, Try.ntmps64
  go_wp2_with fail
  exact bodyPost_ret (v := .tuple #[.int .i64 x, .int .i64 y]) (by simp [results, Try.results64, go_sem]) rfl ⟨rfl, rfl⟩
theorem wrap_in (n : Int) (h : -9223372036854775808 ≤ n ∧ n ≤ 9223372036854775807) : wrap64 n = n := by unfold wrap64; omega
theorem sq (d : Int) (h0 : -2097152 ≤ d) (h1 : d ≤ 2097152) : 0 ≤ d * d ∧ d * d ≤ 4398046511104 := by
  have h2 : d.natAbs ≤ 2097152 := by omega
  have h3 := Nat.mul_le_mul h2 h2
  have h4 : (((d.natAbs * d.natAbs : Nat)) : Int) = d * d := Int.natAbs_mul_self
  omega
/-- A point's value. -/
def Pt (v : Value) (x y : Int) : Prop := ∃ a b : Nat, v = .complex .f64 a b ∧ Float.Is a x ∧ Float.Is b y
set_option maxRecDepth 100000 in
theorem far_calls (u v : Value) (x y p q : Int) (w : World) (hu : Pt u x y) (hv : Pt v p q) (h1 : near x) (h2 : near y) (h3 : near p) (h4 : near q) :
    Calls Try.prog 23 #[u, v] w fun e w' => e = .returned (.int .i64 ((x - p) * (x - p) + (y - q) * (y - q))) ∧ w = w' := by
  obtain ⟨a, b, rfl, ha, hb⟩ := hu
  obtain ⟨c, d, rfl, hc, hd⟩ := hv
  unfold near at h1 h2 h3 h4
  obtain ⟨r, hr, hr1⟩ := Float.sub_is ha hc (by omega)
  obtain ⟨s, hs, hs1⟩ := Float.sub_is hb hd (by omega)
  have hsum : cSumBits .sub .f64 a b c d = some (r, s) := by unfold cSumBits; rw [hr, hs]; rfl
  have c1 := run_complex_sum (P := Try.prog) w .sub (.inr rfl) 31 .f64 a b c d r s hsum
  have t1 := Float.toInt_is hr1 (by omega) (by omega)
  have t2 := Float.toInt_is hs1 (by omega) (by omega)
  have HP := Lib.hid (parts_calls r s (x - p) (y - q) w t1 t2)
  have s1 := sq (x - p) (by omega) (by omega)
  have s2 := sq (y - q) (by omega) (by omega)
  clear ha hb hc hd hr hs hr1 hs1 hsum t1 t2
  go_enter Try.func23, Try.ntmps23
  go_wp2_with fail
  refine HP.out.mono ?_
  rintro e w' ⟨rfl, rfl⟩
  go_wp2_with fail
  go_ret
  exact ⟨rfl, rfl⟩
def spin : Nat → Int × Int → Int × Int
  | 0, z => z
  | n + 1, z => (-(spin n z).2, (spin n z).1)
theorem one_is : Float.Is 4607182418800017408 1 := ⟨false, 52, by decide, by decide, by decide⟩
theorem null_is : Float.Is 0 0 := by
  obtain ⟨m, hm⟩ : ∃ m : Nat, m = 1074 := ⟨_, rfl⟩
  have z : ∀ q : Nat, (0 : Int).natAbs * 2 ^ q = 0 := fun q => Nat.zero_mul _
  refine ⟨false, m, ?_, by decide, by decide⟩
  rw [z, hm]
  decide
/-- A point times i. -/
theorem turn (t : TypeId) {v : Value} {x y : Int} (h : Pt v x y) (h1 : near x) (h2 : near y) : ∃ a b : Nat, v = .complex .f64 a b ∧ ∃ v', Pt v' (-y) x ∧ ∀ (P : Program) (w : World), (binOp .mul t v (.complex .f64 0 4607182418800017408)).run P w = .ok v' w := by
  obtain ⟨a, b, rfl, ha, hb⟩ := h
  unfold near at h1 h2
  refine ⟨a, b, rfl, ?_⟩
  obtain ⟨ac, e1, i1⟩ := Float.mul_is ha null_is (by simp)
  obtain ⟨bd, e2, i2⟩ := Float.mul_is hb one_is (by simp; omega)
  obtain ⟨re, e3, i3⟩ := Float.sub_is i1 i2 (by simp; omega)
  obtain ⟨ad, e4, i4⟩ := Float.mul_is ha one_is (by simp; omega)
  obtain ⟨bc, e5, i5⟩ := Float.mul_is hb null_is (by simp)
  obtain ⟨im, e6, i6⟩ := Float.add_is i4 i5 (by simp; omega)
  have hm : cMulBits a b 0 4607182418800017408 = some (re, im) := by
    unfold cMulBits
    simp only [e1, e2, e3, e4, e5, e6, Option.bind_some]
  refine ⟨.complex .f64 re im, ⟨re, im, rfl, by simpa using i3, by simpa using i6⟩, fun P w => run_complex_mul w t a b _ _ re im hm⟩
theorem spin_near (k : Nat) {x y : Int} (h1 : near x) (h2 : near y) : near (spin k (x, y)).1 ∧ near (spin k (x, y)).2 := by
  unfold near at *
  induction k with
  | zero => exact ⟨h1, h2⟩
  | succ k ih => simp only [spin]; omega
theorem quarter (n : Int) : (wrap64 (n.tmod 4 + 4)).tmod 4 = ((n % 4).toNat : Int) := by
  have e : n.tmod 4 = n % 4 ∨ n.tmod 4 = n % 4 - 4 := by
    rcases Int.le_total 0 n with h | h
    · left; exact Int.tmod_eq_emod_of_nonneg h
    · have h1 : n.tmod 4 = -((-n) % 4) := by
        rw [← Int.tmod_eq_emod_of_nonneg (by omega : 0 ≤ -n), Int.neg_tmod, Int.neg_neg]
      omega
  have e2 : wrap64 (n.tmod 4 + 4) = n.tmod 4 + 4 := wrap_in _ (by omega)
  rw [e2, Int.tmod_eq_emod_of_nonneg (by omega)]
  omega
set_option maxRecDepth 100000 in
theorem turned_calls (v : Value) (x y n : Int) (w : World) (h : Pt v x y) (h1 : near x) (h2 : near y) (hn : (Lit.int .i64 n).wf = true) :
    Calls Try.prog 25 #[v, .int .i64 n] w fun e w' => ∃ v', e = .returned v' ∧ Pt v' (spin ((n % 4).toNat) (x, y)).1 (spin ((n % 4).toNat) (x, y)).2 ∧ w = w' := by
  obtain ⟨hn0, hn1⟩ := wf_i64 hn
  have H := Lib.hid h
  have H1 := Lib.hid h1
  have H2 := Lib.hid h2
  clear h h1 h2 hn
  go_enter Try.func25, Try.ntmps25
  go_wp2_with fail
  rw [quarter]
  obtain ⟨N, hN⟩ : ∃ N : Nat, (n % 4).toNat = N := ⟨_, rfl⟩
  have hN4 : N < 4 := by omega
  have HN := Lib.hid hN
  rw [hN]
  go_loopw [0, 9] (fun u i wr => ∃ k : Nat, k ≤ N ∧ i = .int .i64 k ∧ Pt u (spin k (x, y)).1 (spin k (x, y)).2 ∧ w = wr) (fun _ i _ => N - (intOf i).toNat)
  case atStart => exact ⟨0, Nat.zero_le _, rfl, H.out, rfl⟩
  case round =>
    obtain ⟨k, hk, rfl, hp, rfl⟩ := hrel
    by_cases hlt : k < N
    · obtain ⟨n1, n2⟩ := spin_near k H1.out H2.out
      obtain ⟨a, b, rfl, v', hv', hrun⟩ := turn 31 hp n1 n2
      have hr := hrun Try.prog w
      have HV := Lib.hid hv'
      clear hp hv' hrun n1 n2
      go_wp2_with fail
      exact ⟨⟨k + 1, by omega, by simp, HV.out, trivial⟩, by simp [intOf]; omega⟩
    · obtain rfl : k = N := by omega
      have HP := Lib.hid hp
      clear hp
      go_wp2_with fail
      go_ret
      exact ⟨_, rfl, by rw [HN.out]; exact HP.out, rfl⟩
theorem eq_is (t : TypeId) {u v : Value} {x y p q : Int} (h : Pt u x y) (k : Pt v p q) (P : Program) (w : World) : (binOp .eql t u v).run P w = .ok (.bool (decide (x = p) && decide (y = q))) w := by
  obtain ⟨a, b, rfl, ha, hb⟩ := h
  obtain ⟨c, d, rfl, hc, hd⟩ := k
  have e1 := Float.order_is ha hc
  have e2 := Float.order_is hb hd
  have c1 : ∀ m n : Int, (some (compare m n) == some Ordering.eq) = decide (m = n) := by
    intro m n
    by_cases hmn : m = n
    · rw [Int.compare_eq_eq.2 hmn, decide_eq_true hmn]; rfl
    · rw [decide_eq_false hmn]
      rcases Int.lt_or_gt_of_ne hmn with h | h
      · rw [Int.compare_eq_lt.2 h]; rfl
      · rw [Int.compare_eq_gt.2 h]; rfl
  have f1 : FloatKind.f64.format.order a c = some (compare x p) := e1
  have f2 : FloatKind.f64.format.order b d = some (compare y q) := e2
  simp [binOp, Op.complexOp, Op.Complex.cmp, Op.floatCmp, f1, f2, c1, asBool]
theorem near_is {n : Int} (h : near n) : Float.Is (F n) n := by
  unfold near at h
  exact Float.of_int n (by omega)
theorem pt_at {x y : Int} (h1 : near x) (h2 : near y) : Pt (.complex .f64 (F x) (F y)) x y := ⟨_, _, rfl, near_is h1, near_is h2⟩
set_option maxRecDepth 100000 in
theorem awake_calls (w : World) : Calls Try.prog 21 #[] w fun e w' => e = .returned (.bool true) ∧ w = w' := by
  have n0 : near 0 := by unfold near; omega
  have n3 : near 3 := by unfold near; omega
  have n4 : near 4 := by unfold near; omega
  have A0 := Lib.hid (at_calls 0 0 w n0 n0)
  have A1 := Lib.hid (at_calls 3 4 w n3 n4)
  have A2 := Lib.hid (far_calls _ _ 0 0 3 4 w (pt_at n0 n0) (pt_at n3 n4) n0 n0 n3 n4)
  clear n0 n3 n4
  generalize F 0 = f0 at *
  generalize F 3 = f3 at *
  generalize F 4 = f4 at *
  go_enter Try.func21, Try.ntmps21
  go_wp2_with fail
  refine A0.out.mono ?_
  rintro e w' ⟨rfl, rfl⟩
  go_wp2_with fail
  refine A1.out.mono ?_
  rintro e w' ⟨rfl, rfl⟩
  go_wp2_with fail
  refine A2.out.mono ?_
  rintro e w' ⟨rfl, rfl⟩
  go_wp2_with fail
  go_ret
  exact ⟨rfl, rfl⟩
end Go.Proofs.Ytaohnialheccdaa.Site
