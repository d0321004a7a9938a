/- TablePlays: what the row asks of the program's text (its kernel check takes much memory: a text of its own). -/
import Derived.Test.YtfhgjopoohfhjaaRows
import Derived.WalkKit
import Derived.ProofKit
import Derived.OpenShut
import Derived.ShutString
import Derived.ChangeOld
import Derived.Below
import Derived.SizedLaws
import Derived.ChangeSlices
namespace Go.Proofs.Ytfhgjopoohfhjaa.tablePlaysFit
open Go.ChangeShapes Go.WideShapes Go.ChangeAt Go.RowKit
open Go.ChangeMaps (open_string shut_string)

theorem fit : joinedFacts Try.pinned.checked.prog 12 Try.f12 Rows.tablePlaysSpec Rows.tablePlaysRow = true := by kernel_rfl
end Go.Proofs.Ytfhgjopoohfhjaa.tablePlaysFit
