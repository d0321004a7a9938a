/- Tables: their shapes; strings compared; a binary search, mirrored. -/
import Derived.Test.YtfhgjopoohfhjaaErase
import Derived.Test.YtfhgjopoohfhjaaClones
import Derived.Test.YtfhgjopoohfhjaaRowSt
import Derived.Shelf.Small.Strs
namespace Go.Proofs.Ytfhgjopoohfhjaa.Tbl
open Go.RowKit Base Step Vec Shape Erase
open Go.Shelf
def ren106 : Go.Shelf.Ren := ⟨fun | 106 => 169 | 213 => 203 | 265 => 221 | n => n, fun | 9 => 9 | 3 => 3 | n => n, fun | n => n⟩
theorem lays106 : Go.Proofs.Lays.n106 Try.prog ren106 := {
  mixed := by kernel_rfl
  f106 := Try.func169.trans (congrArg some (by kernel_rfl))
  f213 := Try.func203.trans (congrArg some (by kernel_rfl))
  f265 := Try.func221.trans (congrArg some (by kernel_rfl))
  t3 := Try.underlying3
  a3 := Try.isAgg3
  z3 := Try.sizeOf3
  v3 := Try.zeroValue3
  t9 := Try.underlying9
  a9 := Try.isAgg9
  z9 := Try.sizeOf9
  v9 := Try.zeroValue9 }
/-- How two texts compare. -/
def cmpS (a b : ByteArray) : Int := Lib.compareBytes a.data.toList b.data.toList
theorem compare_calls (a b : ByteArray) (w : World) :
    Calls Try.prog 169 #[.string a, .string b] w fun e w' => e = .returned (.int .i64 (cmpS a b)) ∧ w' = w := Any.strings_Compare lays106 a b w
abbrev plS : Sh := .st (.cons (.int .i64) (.cons (.int .u32) .nil))
abbrev rowS : Sh := .sl plS
abbrev plcS : Sh := .sl rowS
abbrev planS : Sh := .st (.cons (.int .i64) (.cons (.int .i64) (.cons (.int .i64) .nil)))
abbrev objS : Sh := .st (.cons (.int .u32) (.cons .str (.cons planS (.cons plcS .nil))))
abbrev Obj := objS.T
def num (o : Obj) : Int := o.1
def name (o : Obj) : ByteArray := o.2.1
def plc (o : Obj) : plcS.T := o.2.2.2.1
def plan (o : Obj) : planS.T := o.2.2.1
abbrev Row := rowS.T
/-- A row of places: where, how many, what room, which. -/
def rA (r : Row) : Option Addr := r.1
def rN (r : Row) : Nat := r.2.1
def rC (r : Row) : Nat := r.2.2.1
def rP (r : Row) : List plS.T := r.2.2.2
/-- An object's rows. -/
def pA (o : Obj) : Option Addr := (plc o).1
def pN (o : Obj) : Nat := (plc o).2.1
def pC (o : Obj) : Nat := (plc o).2.2.1
def rows (o : Obj) : List Row := (plc o).2.2.2
/-- An object's cells, in words. -/
abbrev objC (o : Obj) : List Value := [.int .u32 (num o), .string (name o), .int .i64 (plan o).1, .int .i64 (plan o).2.1, .int .i64 (plan o).2.2.1, .slice (pA o) (pN o) (pC o)]
abbrev objV (o : Obj) : Value := .agg #[.int .u32 (num o), .string (name o), .int .i64 (plan o).1, .int .i64 (plan o).2.1, .int .i64 (plan o).2.2.1, .slice (pA o) (pN o) (pC o)]
theorem obj_cells (o : Obj) : objS.cells o = objC o := rfl
theorem obj_size : objS.size = 6 := rfl
set_option maxRecDepth 100000 in
/-- The comparison that the search is handed. -/
theorem cmp_calls (o : Obj) (s : ByteArray) (w : World) : Calls Try.prog 168 #[objV o, .string s] w fun e w' => e = .returned (.int .i64 (cmpS (name o) s)) ∧ Ext w w' := by
  have he := Lib.hid (Ext.new w (.cells #[.int .u32 (num o), .string (name o), .int .i64 (plan o).1, .int .i64 (plan o).2.1, .int .i64 (plan o).2.2.1, .slice (pA o) (pN o) (pC o)] 108))
  go_enter Try.func168, Try.ntmps168
  go_wp2_with fail
  refine (compare_calls _ _ _).mono ?_
  rintro e w1 ⟨rfl, rfl⟩
  go_wp2_with fail
  go_ret
  exact ⟨rfl, he.out⟩
/-- A binary search, mirrored: how many rounds, from where, up to where. -/
def bsGo (cf : Nat → Int) : Nat → Nat → Nat → Nat
  | 0, i, _ => i
  | f + 1, i, j => if i < j then (if cf ((i + j) / 2) < 0 then bsGo cf f ((i + j) / 2 + 1) j else bsGo cf f i ((i + j) / 2)) else i
theorem bsGo_done (cf : Nat → Int) (f : Nat) {i j : Nat} (h : j ≤ i) : bsGo cf f i j = i := by
  cases f with
  | zero => rfl
  | succ f => rw [bsGo, if_neg (by omega)]
theorem bsGo_fuel (cf : Nat → Int) : ∀ (f g i j : Nat), j - i ≤ f → j - i ≤ g → bsGo cf f i j = bsGo cf g i j
  | 0, g, i, j, h, _ => by rw [bsGo_done cf 0 (by omega), bsGo_done cf g (by omega)]
  | f + 1, 0, i, j, _, h => by rw [bsGo_done cf (f + 1) (by omega), bsGo_done cf 0 (by omega)]
  | f + 1, g + 1, i, j, h1, h2 => by
    unfold bsGo
    by_cases hij : i < j
    · simp only [hij, if_true]
      split
      · exact bsGo_fuel cf f g _ _ (by omega) (by omega)
      · exact bsGo_fuel cf f g _ _ (by omega) (by omega)
    · simp only [hij, if_false]
theorem bsGo_le (cf : Nat → Int) : ∀ (f i j : Nat), i ≤ j → bsGo cf f i j ≤ j
  | 0, i, j, h => h
  | f + 1, i, j, h => by
    unfold bsGo
    by_cases hij : i < j
    · simp only [hij, if_true]
      split
      · exact bsGo_le cf f _ _ (by omega)
      · exact Nat.le_trans (bsGo_le cf f _ _ (by omega)) (by omega)
    · simp only [hij, if_false]; exact h
/-- Where a name stands, or would. -/
def place (objs : List Obj) (s : ByteArray) : Nat := bsGo (fun h => match objs[h]? with | some o => cmpS (name o) s | none => 0) objs.length 0 objs.length
def there (objs : List Obj) (s : ByteArray) : Bool := match objs[place objs s]? with | some o => decide (cmpS (name o) s = 0) | none => false
theorem place_le (objs : List Obj) (s : ByteArray) : place objs s ≤ objs.length := bsGo_le _ _ _ _ (Nat.zero_le _)
theorem there_at {objs : List Obj} {s : ByteArray} (h : there objs s = true) : ∃ o, objs[place objs s]? = some o ∧ cmpS (name o) s = 0 := by
  unfold there at h
  split at h
  · rename_i o ho
    exact ⟨o, ho, of_decide_eq_true h⟩
  · cases h
end Go.Proofs.Ytfhgjopoohfhjaa.Tbl
