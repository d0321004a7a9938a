/- Contracts of Go's library that the kit's shelf has proved over any program, at this program's numbers: strings.Builder's String. -/
import Derived.Shelf.Strings.Builder1
import Derived.Test.YtfhgjopoohfhjaaProg
namespace Go.Proofs.Ytfhgjopoohfhjaa.Shelf
open Go.Shelf
def ren169 : Go.Shelf.Ren := ⟨fun | 169 => 163 | n => n, fun | 70 => 249 | 9 => 9 | 0 => 0 | 72 => 251 | 37 => 22 | 127 => 290 | 3 => 3 | 5 => 5 | n => n, fun | n => n⟩
theorem lays169 : Go.Proofs.Lays.n169 Try.prog ren169 := {
  mixed := by kernel_rfl
  f169 := Try.func163.trans (congrArg some (by kernel_rfl))
  t0 := Try.underlying0
  a0 := Try.isAgg0
  z0 := Try.sizeOf0
  v0 := Try.zeroValue0
  t3 := Try.underlying3
  a3 := Try.isAgg3
  z3 := Try.sizeOf3
  v3 := Try.zeroValue3
  t9 := Try.underlying9
  a9 := Try.isAgg9
  z9 := Try.sizeOf9
  v9 := Try.zeroValue9
  t37 := Try.underlying22
  a37 := Try.isAgg22
  z37 := Try.sizeOf22
  v37 := Try.zeroValue22
  t70 := Try.underlying249
  a70 := Try.isAgg249
  z70 := Try.sizeOf249
  v70 := Try.zeroValue249
  t72 := Try.underlying251
  a72 := Try.isAgg251
  z72 := Try.sizeOf251
  v72 := Try.zeroValue251
  t127 := Try.underlying290
  a127 := Try.isAgg290
  z127 := Try.sizeOf290
  v127 := Try.zeroValue290 }
theorem extra169 : Builder.Extra Try.prog ren169 := {
  sizeBuilder := by kernel_rfl
  liesBuilder := by kernel_rfl
  t5 := Try.underlying5
  a5 := Try.isAgg5
  z5 := Try.sizeOf5
  v5 := Try.zeroValue5
  infoByte := by kernel_rfl
  cellsByte := by kernel_rfl
  sizeByte := by kernel_rfl
  neB5 := by decide }
open Go.RowKit in
theorem string_calls (B b : Nat) (l : List UInt8) (w : World) (h : Lib.IsBuilder 251 5 B b (Lib.byteCells l) w) (hBw : B ≤ w.heap.size) :
    Calls Try.prog 163 #[.pointer (some ⟨b, 0, none⟩)] w fun e w' => e = .returned (.string ⟨l.toArray⟩) ∧ Below B w w' := Any.Builder_String_any lays169 extra169 B b l w h hBw
end Go.Proofs.Ytfhgjopoohfhjaa.Shelf
