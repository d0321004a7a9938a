/- script.Write, walked. -/
import Derived.Test.YtfhgjopoohfhjaaScriptG
namespace Go.Proofs.Ytfhgjopoohfhjaa.Script
open Go.RowKit Base Step Vec
open ScriptP (L nm nameI kindOf Kind form formI digits digitsI numP numR chr cut St field write parseP)
section
variable {P : Program}
/-- A struct is loaded, guarded or not. -/
theorem wpList_load_rowG {ops : Array Oper} {rest : List Oper} {o : Oper} {a : Act} {w : World} {Q : Exit → Act → World → Prop} (hgd : Region.wanted o (yielded ops a.tmps) = true) (ty : TypeId) (x : Operand) (ho : o.op = .load ty x)
    (g : Nat) (hx : a.eval x = .pointer (some ⟨g, 0, none⟩)) (t : TypeId) (cs : Array Value) (fr : Nat × Nat) (d : TypeDesc) (hg : w.heap[g]? = some (.cells cs t fr))
    (hu : P.underlying ty = some d) (hd : (match d with | .struct _ | .array _ _ => true | _ => false) = true) (hi : (P.info? ty).map (·.size) = some cs.size)
    (h : wpList P ops Q rest (a.put o.dst (.agg cs)) w) : wpList P ops Q (o :: rest) a w := by
  refine wpList_step fun K hK => ?_
  rw [if_pos hgd]
  exact wp_load_row ty x ho g hx t cs fr d hg hu hd hi (hK _ _ h)
end
/-- What Write answers. -/
def lineOf (s : St) : L := match parseP (write s) with
  | none => []
  | some x => if same x s then write s else []
theorem write_short {s : St} (h : Ok s) : (write s).length ≤ 5000 := by
  have h0 : write s = wr1 s (formI s.kind) (formI s.kind).length := (wr1_all s (formI s.kind)).symm
  have h1 := wr1_short h (formI s.kind) (formI s.kind).length
  have h2 := form_short s.kind
  rw [h0]
  omega
set_option maxRecDepth 100000 in
set_option maxHeartbeats 1600000 in
theorem swrite_calls (s : St) (D : Option Addr) (n c : Nat) (w : World) (hs : Ok s) (hd : Rd w .u8 D n (ints s.data)) :
    Calls Try.prog 46 #[stV s D n c] w fun e w' => e = .returned (.string (S (lineOf s))) ∧ Ext w w' := by
  have hx1 := at_new w (.cells (cellsV s D n c) 46)
  have hE1 := Ext.new w (.cells (cellsV s D n c) 46)
  have HX1 := Lib.hid hx1
  have HE1 := Lib.hid hE1
  have hws := write_short hs
  have HWL : Hid (lineOf s = match parseP (write s) with | none => [] | some x => if same x s then write s else []) := Lib.hid rfl
  clear hx1 hE1
  go_enter Try.func46, Try.ntmps46
  go_wp2_with (refine wpList_load_row rfl 46 _ rfl w.heap.size rfl 46 (cellsV s D n c) (0, 0) _ HX1.out Try.underlying46 rfl (by kernel_rfl) ?_)
  refine (write_calls s D n c _ hs (hd.ext HE1.out)).mono ?_
  rintro e w2 ⟨rfl, he2⟩
  have hx2 := he2.at_ HX1.out
  have hE2 := HE1.out.trans he2
  clear HX1 HE1 he2
  go_wp2_with fail
  refine (parse_calls (S (write s)) _ (by simp [ByteArray.size]; omega)).mono ?_
  rintro e w3 ⟨he3, hp⟩
  rw [show (S (write s)).data.toList = write s from rfl] at hp
  have hx3 := he3.at_ hx2
  have hE3 := hE2.trans he3
  clear hx2 hE2 he3
  have HX3 := Lib.hid hx3
  have HE3 := Lib.hid hE3
  have hgx : w.heap.size < w3.heap.size := (Array.getElem?_eq_some_iff.1 hx3).1
  clear hx3 hE3
  cases ho : parseP (write s) with
  | none =>
    rw [ho] at hp
    obtain rfl := hp
    have HR : Hid (lineOf s = []) := Lib.hid (by rw [HWL.out, ho])
    clear ho HWL
    go_wp2_with (refine RowSt.wpList_put 46 _ _ rfl rfl rfl w3.heap.size (cellsV (St.of 0) none 0 0) rfl rfl 46 _ (at_new w3 _) (by kernel_rfl) rfl (cells_one _ _ _ _) ?_; intro w8 hb8 hc8)
    go_ret
    exact ⟨by rw [HR.out]; rfl, (HE3.out.alloc _).chg hc8 fun i hi => by rw [hi]; omega⟩
  | some x =>
    rw [ho] at hp
    obtain ⟨D2, n2, c2, rfl, hd2⟩ := hp
    have HR : Hid (lineOf s = if same x s then write s else []) := Lib.hid (by rw [HWL.out, ho])
    clear ho HWL
    have HD2 := Lib.hid hd2
    clear hd2
    go_wp2_with (first | (refine RowSt.wpList_put 46 _ _ rfl rfl rfl w3.heap.size (cellsV x D2 n2 c2) rfl rfl 46 _ (at_new w3 _) (by kernel_rfl) rfl (cells_one _ _ _ _) ?_; intro w8 hb8 hc8; have HX8 := Lib.hid (hc8.at_ ((Ext.new w3 _).at_ HX3.out) (by omega)); have HB8 := Lib.hid hb8; have HC8 := Lib.hid hc8; clear hb8 hc8) | (refine wpList_load_rowG rfl 46 _ rfl w3.heap.size rfl 46 (cellsV x D2 n2 c2) (0, 0) _ HB8.out Try.underlying46 rfl (by kernel_rfl) ?_) | (refine wpList_load_rowG rfl 46 _ rfl w.heap.size rfl 46 (cellsV s D n c) (0, 0) _ HX8.out Try.underlying46 rfl (by kernel_rfl) ?_))
    have hE8 : Ext w w8 := (HE3.out.alloc _).chg HC8.out fun i hi => by rw [hi]; omega
    refine (same_calls x s D2 n2 c2 D n c _ ?_ (hd.ext hE8)).mono ?_
    · exact (HD2.out.ext (Ext.new w3 _)).chg HC8.out fun ad e h0 => by
        subst e
        have := HD2.out.lt h0
        simp
        omega
    rintro e w9 ⟨rfl, he9⟩
    have hE9 := hE8.trans he9
    cases hsm : same x s with
    | true =>
      go_wp2_with fail
      go_ret
      exact ⟨by rw [HR.out, hsm]; rfl, hE9⟩
    | false =>
      go_wp2_with fail
      go_ret
      exact ⟨by rw [HR.out, hsm]; rfl, hE9⟩
end Go.Proofs.Ytfhgjopoohfhjaa.Script
