/-
  No cell of these rows narrows 'for every input' (looked for: loops, veiled, ifaces, maps, wideKeys, modest, calm, conditions, laid).
  DERIVED. THE GIVEN ROWS OF THIS SEAT. 12 by the template 'for every input the law returns true; each argument reads behind the call as it read before'; 0 by the template 'total and deterministic' (their statements: YtaohnialheccdaaTotals.lean).
  GIVEN WITH THE SEED: the statements are not yours to turn. If you find one false, say at which input.
  Laid BY PROGRAM, IN A SANDBOX (cutbox-rows.mjs): the forced cells as the released guide's own fill.sh prints them over the translation 1c978f3e1fc6bde7… (all of the seat's roots in one cut). By AI agents, Wed Nov 11 2026. No macro, syntax, notation, axiom, sorry.
-/
import Derived.Test.YtaohnialheccdaaChecked
import GoSem.Claim
import GoSem.ClaimJoined
import GoSem.ClaimMapViews
import Derived.JoinedTies
import Derived.KernelRfl
namespace Go.Proofs.Ytaohnialheccdaa
/- THE CELL 'sum', in the pinned program and in every row, IS THE sha256 OF THE DUMP (.gsa) THAT YtaohnialheccdaaProg.lean LOADS. Nothing in Lean hashes anything: it is a label: what it is worth is what the hold of that sum in a sandbox is worth. -/
noncomputable def Try.pinned : Pinned := { name := "ytaohnialheccdaa", sum := "1c978f3e1fc6bde7f2894309770f2eefc93f9727fde4e3e1ca4d87256f6ec41c", checked := Try.checked }
namespace Rows
def none {H : Type} : Left H := { results := [], args := [] }

/-- 'coldframelaw10.SealSums': WHATEVER THE INPUT: true; the input reads as it did. -/
def sealSumsSpec : ChangeSpec := { name := "sealSums", fn := fun _ => fun
  | [d1, d2] => { results := [.lit (.bool true)], args := [d1, d2] }
  | _ => none }
def sealSumsRow : OpenClaim := { program := "ytaohnialheccdaa", sum := "1c978f3e1fc6bde7f2894309770f2eefc93f9727fde4e3e1ca4d87256f6ec41c", func := "coldframe/coldframelaw10.SealSums", spec := "sealSums", apart := false }
def SealSumsSaid : Prop := sealSumsRow.holds Try.pinned (OpenSpec.ofChange sealSumsSpec)

/-- ITS FALSE NEIGHBOUR: 'it returns false'. Refute it at one input. -/
def sealSumsWrong : ChangeSpec := { name := "sealSums", fn := fun _ => fun
  | [d1, d2] => { results := [.lit (.bool false)], args := [d1, d2] }
  | _ => none }
def SealSumsWrongFalsely : Prop := sealSumsRow.holds Try.pinned (OpenSpec.ofChange sealSumsWrong)

/-- 'coldframelaw09.SitePoints': WHATEVER THE INPUT: true; the input reads as it did. -/
def sitePointsSpec : ChangeSpec := { name := "sitePoints", fn := fun _ => fun
  | [d1, d2, d3] => { results := [.lit (.bool true)], args := [d1, d2, d3] }
  | _ => none }
def sitePointsRow : OpenClaim := { program := "ytaohnialheccdaa", sum := "1c978f3e1fc6bde7f2894309770f2eefc93f9727fde4e3e1ca4d87256f6ec41c", func := "coldframe/coldframelaw09.SitePoints", spec := "sitePoints", apart := false }
def SitePointsSaid : Prop := sitePointsRow.holds Try.pinned (OpenSpec.ofChange sitePointsSpec)

/-- ITS FALSE NEIGHBOUR: 'it returns false'. Refute it at one input. -/
def sitePointsWrong : ChangeSpec := { name := "sitePoints", fn := fun _ => fun
  | [d1, d2, d3] => { results := [.lit (.bool false)], args := [d1, d2, d3] }
  | _ => none }
def SitePointsWrongFalsely : Prop := sitePointsRow.holds Try.pinned (OpenSpec.ofChange sitePointsWrong)

/-- 'coldframelaw09.SiteTurns': WHATEVER THE INPUT: true; the input reads as it did. -/
def siteTurnsSpec : ChangeSpec := { name := "siteTurns", fn := fun _ => fun
  | [d1, d2, d3] => { results := [.lit (.bool true)], args := [d1, d2, d3] }
  | _ => none }
def siteTurnsRow : OpenClaim := { program := "ytaohnialheccdaa", sum := "1c978f3e1fc6bde7f2894309770f2eefc93f9727fde4e3e1ca4d87256f6ec41c", func := "coldframe/coldframelaw09.SiteTurns", spec := "siteTurns", apart := false }
def SiteTurnsSaid : Prop := siteTurnsRow.holds Try.pinned (OpenSpec.ofChange siteTurnsSpec)

/-- ITS FALSE NEIGHBOUR: 'it returns false'. Refute it at one input. -/
def siteTurnsWrong : ChangeSpec := { name := "siteTurns", fn := fun _ => fun
  | [d1, d2, d3] => { results := [.lit (.bool false)], args := [d1, d2, d3] }
  | _ => none }
def SiteTurnsWrongFalsely : Prop := siteTurnsRow.holds Try.pinned (OpenSpec.ofChange siteTurnsWrong)

/-- 'coldframelaw10.SealLong': WHATEVER THE INPUT: true; the input reads as it did. -/
def sealLongSpec : ChangeSpec := { name := "sealLong", fn := fun _ => fun
  | [d] => { results := [.lit (.bool true)], args := [d] }
  | _ => none }
def sealLongRow : OpenClaim := { program := "ytaohnialheccdaa", sum := "1c978f3e1fc6bde7f2894309770f2eefc93f9727fde4e3e1ca4d87256f6ec41c", func := "coldframe/coldframelaw10.SealLong", spec := "sealLong", apart := false }
def SealLongSaid : Prop := sealLongRow.holds Try.pinned (OpenSpec.ofChange sealLongSpec)

/-- ITS FALSE NEIGHBOUR: 'it returns false'. Refute it at one input. -/
def sealLongWrong : ChangeSpec := { name := "sealLong", fn := fun _ => fun
  | [d] => { results := [.lit (.bool false)], args := [d] }
  | _ => none }
def SealLongWrongFalsely : Prop := sealLongRow.holds Try.pinned (OpenSpec.ofChange sealLongWrong)

/-- 'coldframelaw13.TapeKeeps': WHATEVER THE INPUT: true; the input reads as it did. -/
def tapeKeepsSpec : ChangeSpec := { name := "tapeKeeps", fn := fun _ => fun
  | [d1, d2, d3, d4] => { results := [.lit (.bool true)], args := [d1, d2, d3, d4] }
  | _ => none }
def tapeKeepsRow : OpenClaim := { program := "ytaohnialheccdaa", sum := "1c978f3e1fc6bde7f2894309770f2eefc93f9727fde4e3e1ca4d87256f6ec41c", func := "coldframe/coldframelaw13.TapeKeeps", spec := "tapeKeeps", apart := false }
def TapeKeepsSaid : Prop := tapeKeepsRow.holds Try.pinned (OpenSpec.ofChange tapeKeepsSpec)

/-- ITS FALSE NEIGHBOUR: 'it returns false'. Refute it at one input. -/
def tapeKeepsWrong : ChangeSpec := { name := "tapeKeeps", fn := fun _ => fun
  | [d1, d2, d3, d4] => { results := [.lit (.bool false)], args := [d1, d2, d3, d4] }
  | _ => none }
def TapeKeepsWrongFalsely : Prop := tapeKeepsRow.holds Try.pinned (OpenSpec.ofChange tapeKeepsWrong)

/-- 'coldframelaw10.SealScans': WHATEVER THE INPUT: true; the input reads as it did. -/
def sealScansSpec : ChangeSpec := { name := "sealScans", fn := fun _ => fun
  | [d] => { results := [.lit (.bool true)], args := [d] }
  | _ => none }
def sealScansRow : OpenClaim := { program := "ytaohnialheccdaa", sum := "1c978f3e1fc6bde7f2894309770f2eefc93f9727fde4e3e1ca4d87256f6ec41c", func := "coldframe/coldframelaw10.SealScans", spec := "sealScans", apart := false }
def SealScansSaid : Prop := sealScansRow.holds Try.pinned (OpenSpec.ofChange sealScansSpec)

/-- ITS FALSE NEIGHBOUR: 'it returns false'. Refute it at one input. -/
def sealScansWrong : ChangeSpec := { name := "sealScans", fn := fun _ => fun
  | [d] => { results := [.lit (.bool false)], args := [d] }
  | _ => none }
def SealScansWrongFalsely : Prop := sealScansRow.holds Try.pinned (OpenSpec.ofChange sealScansWrong)

/-- 'coldframelaw13.TapePlays': WHATEVER THE INPUT: true; the input reads as it did. -/
def tapePlaysSpec : ChangeSpec := { name := "tapePlays", fn := fun _ => fun
  | [d1, d2] => { results := [.lit (.bool true)], args := [d1, d2] }
  | _ => none }
def tapePlaysRow : OpenClaim := { program := "ytaohnialheccdaa", sum := "1c978f3e1fc6bde7f2894309770f2eefc93f9727fde4e3e1ca4d87256f6ec41c", func := "coldframe/coldframelaw13.TapePlays", spec := "tapePlays", apart := false }
def TapePlaysSaid : Prop := tapePlaysRow.holds Try.pinned (OpenSpec.ofChange tapePlaysSpec)

/-- ITS FALSE NEIGHBOUR: 'it returns false'. Refute it at one input. -/
def tapePlaysWrong : ChangeSpec := { name := "tapePlays", fn := fun _ => fun
  | [d1, d2] => { results := [.lit (.bool false)], args := [d1, d2] }
  | _ => none }
def TapePlaysWrongFalsely : Prop := tapePlaysRow.holds Try.pinned (OpenSpec.ofChange tapePlaysWrong)

/-- 'coldframelaw10.SealFrames': WHATEVER THE INPUT: true; the input reads as it did. -/
def sealFramesSpec : ChangeSpec := { name := "sealFrames", fn := fun _ => fun
  | [d1, d2, d3] => { results := [.lit (.bool true)], args := [d1, d2, d3] }
  | _ => none }
def sealFramesRow : OpenClaim := { program := "ytaohnialheccdaa", sum := "1c978f3e1fc6bde7f2894309770f2eefc93f9727fde4e3e1ca4d87256f6ec41c", func := "coldframe/coldframelaw10.SealFrames", spec := "sealFrames", apart := false }
def SealFramesSaid : Prop := sealFramesRow.holds Try.pinned (OpenSpec.ofChange sealFramesSpec)

/-- ITS FALSE NEIGHBOUR: 'it returns false'. Refute it at one input. -/
def sealFramesWrong : ChangeSpec := { name := "sealFrames", fn := fun _ => fun
  | [d1, d2, d3] => { results := [.lit (.bool false)], args := [d1, d2, d3] }
  | _ => none }
def SealFramesWrongFalsely : Prop := sealFramesRow.holds Try.pinned (OpenSpec.ofChange sealFramesWrong)

/-- 'coldframelaw10.SealFinds': WHATEVER THE INPUT: true; the input reads as it did. -/
def sealFindsSpec : ChangeSpec := { name := "sealFinds", fn := fun _ => fun
  | [d1, d2, d3, d4] => { results := [.lit (.bool true)], args := [d1, d2, d3, d4] }
  | _ => none }
def sealFindsRow : OpenClaim := { program := "ytaohnialheccdaa", sum := "1c978f3e1fc6bde7f2894309770f2eefc93f9727fde4e3e1ca4d87256f6ec41c", func := "coldframe/coldframelaw10.SealFinds", spec := "sealFinds", apart := false }
def SealFindsSaid : Prop := sealFindsRow.holds Try.pinned (OpenSpec.ofChange sealFindsSpec)

/-- ITS FALSE NEIGHBOUR: 'it returns false'. Refute it at one input. -/
def sealFindsWrong : ChangeSpec := { name := "sealFinds", fn := fun _ => fun
  | [d1, d2, d3, d4] => { results := [.lit (.bool false)], args := [d1, d2, d3, d4] }
  | _ => none }
def SealFindsWrongFalsely : Prop := sealFindsRow.holds Try.pinned (OpenSpec.ofChange sealFindsWrong)

/-- 'coldframelaw11.PlatterKeeps': WHATEVER THE INPUT: true; the input reads as it did. -/
def platterKeepsSpec : ChangeSpec := { name := "platterKeeps", fn := fun _ => fun
  | [d1, d2, d3, d4] => { results := [.lit (.bool true)], args := [d1, d2, d3, d4] }
  | _ => none }
def platterKeepsRow : OpenClaim := { program := "ytaohnialheccdaa", sum := "1c978f3e1fc6bde7f2894309770f2eefc93f9727fde4e3e1ca4d87256f6ec41c", func := "coldframe/coldframelaw11.PlatterKeeps", spec := "platterKeeps", apart := false }
def PlatterKeepsSaid : Prop := platterKeepsRow.holds Try.pinned (OpenSpec.ofChange platterKeepsSpec)

/-- ITS FALSE NEIGHBOUR: 'it returns false'. Refute it at one input. -/
def platterKeepsWrong : ChangeSpec := { name := "platterKeeps", fn := fun _ => fun
  | [d1, d2, d3, d4] => { results := [.lit (.bool false)], args := [d1, d2, d3, d4] }
  | _ => none }
def PlatterKeepsWrongFalsely : Prop := platterKeepsRow.holds Try.pinned (OpenSpec.ofChange platterKeepsWrong)

/-- 'coldframelaw11.PlatterMakes': WHATEVER THE INPUT: true; the input reads as it did. -/
def platterMakesSpec : ChangeSpec := { name := "platterMakes", fn := fun _ => fun
  | [d1, d2] => { results := [.lit (.bool true)], args := [d1, d2] }
  | _ => none }
def platterMakesRow : OpenClaim := { program := "ytaohnialheccdaa", sum := "1c978f3e1fc6bde7f2894309770f2eefc93f9727fde4e3e1ca4d87256f6ec41c", func := "coldframe/coldframelaw11.PlatterMakes", spec := "platterMakes", apart := false }
def PlatterMakesSaid : Prop := platterMakesRow.holds Try.pinned (OpenSpec.ofChange platterMakesSpec)

/-- ITS FALSE NEIGHBOUR: 'it returns false'. Refute it at one input. -/
def platterMakesWrong : ChangeSpec := { name := "platterMakes", fn := fun _ => fun
  | [d1, d2] => { results := [.lit (.bool false)], args := [d1, d2] }
  | _ => none }
def PlatterMakesWrongFalsely : Prop := platterMakesRow.holds Try.pinned (OpenSpec.ofChange platterMakesWrong)

/-- 'coldframelaw09.SiteNears': WHATEVER THE INPUT: true; the input reads as it did. -/
def siteNearsSpec : ChangeSpec := { name := "siteNears", fn := fun _ => fun
  | [d1, d2] => { results := [.lit (.bool true)], args := [d1, d2] }
  | _ => none }
def siteNearsRow : OpenClaim := { program := "ytaohnialheccdaa", sum := "1c978f3e1fc6bde7f2894309770f2eefc93f9727fde4e3e1ca4d87256f6ec41c", func := "coldframe/coldframelaw09.SiteNears", spec := "siteNears", inPlace := ["slices.overlaps[int]"], apart := false }
def SiteNearsSaid : Prop := siteNearsRow.holds Try.pinned (OpenSpec.ofChange siteNearsSpec)

/-- ITS FALSE NEIGHBOUR: 'it returns false'. Refute it at one input. -/
def siteNearsWrong : ChangeSpec := { name := "siteNears", fn := fun _ => fun
  | [d1, d2] => { results := [.lit (.bool false)], args := [d1, d2] }
  | _ => none }
def SiteNearsWrongFalsely : Prop := siteNearsRow.holds Try.pinned (OpenSpec.ofChange siteNearsWrong)

/- THE SECOND FORM. 'bulk': how many values and letters a reading holds, each counted each time it is reached (what is shared counts as often as it is met; a slice's spare places count too). A statement '..UptoSaid' is the law's where the arguments, and the package variables that the reading takes, are together of bulk at most 1048576: NARROWER than '..Said'. Prove '..Said' where nothing that the law and all that it calls make is longer than what came in: it says more and counts as full. Else prove '..UptoSaid'. A law counts once. -/
mutual
def uptoBulk {H : Type} : DataW H → Nat
  | .lit (.string bytes) => bytes.length + 1
  | .lit _ => 1
  | .nil => 1
  | .ptr d => uptoBulk d + 1
  | .slice elems spare => uptoBulkAll elems + uptoBulkAll spare + 1
  | .agg parts => uptoBulkAll parts + 1
  | .iface _ d => uptoBulk d + 1
  | .map entries => uptoBulkEntries entries + 1
  | .held _ => 1
def uptoBulkAll {H : Type} : List (DataW H) → Nat
  | [] => 0
  | d :: r => uptoBulk d + uptoBulkAll r
def uptoBulkEntries {H : Type} : List (Lit × DataW H) → Nat
  | [] => 0
  | x :: r => uptoBulkEntry x + uptoBulkEntries r
def uptoBulkEntry {H : Type} : Lit × DataW H → Nat
  | (.string bytes, d) => bytes.length + uptoBulk d + 1
  | (_, d) => uptoBulk d + 1
 end
def uptoSmall : (H : Type) → List (DataW H) → Bool := fun _ ds => decide (uptoBulkAll ds ≤ 1048576)
def OpenSpec.upto (s : _root_.Go.ChangeSpec) : _root_.Go.OpenSpec := { _root_.Go.OpenSpec.ofChange s with cond := some uptoSmall }

/-- 'coldframelaw10.SealSums', WHERE WHAT IT READS IS OF BULK AT MOST 1048576: true; the input reads as it did. -/
def sealSumsUptoRow : OpenClaim := { program := "ytaohnialheccdaa", sum := "1c978f3e1fc6bde7f2894309770f2eefc93f9727fde4e3e1ca4d87256f6ec41c", func := "coldframe/coldframelaw10.SealSums", spec := "sealSums", apart := false, narrowed := true }
def SealSumsUptoSaid : Prop := sealSumsUptoRow.holds Try.pinned (OpenSpec.upto sealSumsSpec)

/-- 'coldframelaw09.SitePoints', WHERE WHAT IT READS IS OF BULK AT MOST 1048576: true; the input reads as it did. -/
def sitePointsUptoRow : OpenClaim := { program := "ytaohnialheccdaa", sum := "1c978f3e1fc6bde7f2894309770f2eefc93f9727fde4e3e1ca4d87256f6ec41c", func := "coldframe/coldframelaw09.SitePoints", spec := "sitePoints", apart := false, narrowed := true }
def SitePointsUptoSaid : Prop := sitePointsUptoRow.holds Try.pinned (OpenSpec.upto sitePointsSpec)

/-- 'coldframelaw09.SiteTurns', WHERE WHAT IT READS IS OF BULK AT MOST 1048576: true; the input reads as it did. -/
def siteTurnsUptoRow : OpenClaim := { program := "ytaohnialheccdaa", sum := "1c978f3e1fc6bde7f2894309770f2eefc93f9727fde4e3e1ca4d87256f6ec41c", func := "coldframe/coldframelaw09.SiteTurns", spec := "siteTurns", apart := false, narrowed := true }
def SiteTurnsUptoSaid : Prop := siteTurnsUptoRow.holds Try.pinned (OpenSpec.upto siteTurnsSpec)

/-- 'coldframelaw10.SealLong', WHERE WHAT IT READS IS OF BULK AT MOST 1048576: true; the input reads as it did. -/
def sealLongUptoRow : OpenClaim := { program := "ytaohnialheccdaa", sum := "1c978f3e1fc6bde7f2894309770f2eefc93f9727fde4e3e1ca4d87256f6ec41c", func := "coldframe/coldframelaw10.SealLong", spec := "sealLong", apart := false, narrowed := true }
def SealLongUptoSaid : Prop := sealLongUptoRow.holds Try.pinned (OpenSpec.upto sealLongSpec)

/-- 'coldframelaw13.TapeKeeps', WHERE WHAT IT READS IS OF BULK AT MOST 1048576: true; the input reads as it did. -/
def tapeKeepsUptoRow : OpenClaim := { program := "ytaohnialheccdaa", sum := "1c978f3e1fc6bde7f2894309770f2eefc93f9727fde4e3e1ca4d87256f6ec41c", func := "coldframe/coldframelaw13.TapeKeeps", spec := "tapeKeeps", apart := false, narrowed := true }
def TapeKeepsUptoSaid : Prop := tapeKeepsUptoRow.holds Try.pinned (OpenSpec.upto tapeKeepsSpec)

/-- 'coldframelaw10.SealScans', WHERE WHAT IT READS IS OF BULK AT MOST 1048576: true; the input reads as it did. -/
def sealScansUptoRow : OpenClaim := { program := "ytaohnialheccdaa", sum := "1c978f3e1fc6bde7f2894309770f2eefc93f9727fde4e3e1ca4d87256f6ec41c", func := "coldframe/coldframelaw10.SealScans", spec := "sealScans", apart := false, narrowed := true }
def SealScansUptoSaid : Prop := sealScansUptoRow.holds Try.pinned (OpenSpec.upto sealScansSpec)

/-- 'coldframelaw13.TapePlays', WHERE WHAT IT READS IS OF BULK AT MOST 1048576: true; the input reads as it did. -/
def tapePlaysUptoRow : OpenClaim := { program := "ytaohnialheccdaa", sum := "1c978f3e1fc6bde7f2894309770f2eefc93f9727fde4e3e1ca4d87256f6ec41c", func := "coldframe/coldframelaw13.TapePlays", spec := "tapePlays", apart := false, narrowed := true }
def TapePlaysUptoSaid : Prop := tapePlaysUptoRow.holds Try.pinned (OpenSpec.upto tapePlaysSpec)

/-- 'coldframelaw10.SealFrames', WHERE WHAT IT READS IS OF BULK AT MOST 1048576: true; the input reads as it did. -/
def sealFramesUptoRow : OpenClaim := { program := "ytaohnialheccdaa", sum := "1c978f3e1fc6bde7f2894309770f2eefc93f9727fde4e3e1ca4d87256f6ec41c", func := "coldframe/coldframelaw10.SealFrames", spec := "sealFrames", apart := false, narrowed := true }
def SealFramesUptoSaid : Prop := sealFramesUptoRow.holds Try.pinned (OpenSpec.upto sealFramesSpec)

/-- 'coldframelaw10.SealFinds', WHERE WHAT IT READS IS OF BULK AT MOST 1048576: true; the input reads as it did. -/
def sealFindsUptoRow : OpenClaim := { program := "ytaohnialheccdaa", sum := "1c978f3e1fc6bde7f2894309770f2eefc93f9727fde4e3e1ca4d87256f6ec41c", func := "coldframe/coldframelaw10.SealFinds", spec := "sealFinds", apart := false, narrowed := true }
def SealFindsUptoSaid : Prop := sealFindsUptoRow.holds Try.pinned (OpenSpec.upto sealFindsSpec)

/-- 'coldframelaw11.PlatterKeeps', WHERE WHAT IT READS IS OF BULK AT MOST 1048576: true; the input reads as it did. -/
def platterKeepsUptoRow : OpenClaim := { program := "ytaohnialheccdaa", sum := "1c978f3e1fc6bde7f2894309770f2eefc93f9727fde4e3e1ca4d87256f6ec41c", func := "coldframe/coldframelaw11.PlatterKeeps", spec := "platterKeeps", apart := false, narrowed := true }
def PlatterKeepsUptoSaid : Prop := platterKeepsUptoRow.holds Try.pinned (OpenSpec.upto platterKeepsSpec)

/-- 'coldframelaw11.PlatterMakes', WHERE WHAT IT READS IS OF BULK AT MOST 1048576: true; the input reads as it did. -/
def platterMakesUptoRow : OpenClaim := { program := "ytaohnialheccdaa", sum := "1c978f3e1fc6bde7f2894309770f2eefc93f9727fde4e3e1ca4d87256f6ec41c", func := "coldframe/coldframelaw11.PlatterMakes", spec := "platterMakes", apart := false, narrowed := true }
def PlatterMakesUptoSaid : Prop := platterMakesUptoRow.holds Try.pinned (OpenSpec.upto platterMakesSpec)

/-- 'coldframelaw09.SiteNears', WHERE WHAT IT READS IS OF BULK AT MOST 1048576: true; the input reads as it did. -/
def siteNearsUptoRow : OpenClaim := { program := "ytaohnialheccdaa", sum := "1c978f3e1fc6bde7f2894309770f2eefc93f9727fde4e3e1ca4d87256f6ec41c", func := "coldframe/coldframelaw09.SiteNears", spec := "siteNears", inPlace := ["slices.overlaps[int]"], apart := false, narrowed := true }
def SiteNearsUptoSaid : Prop := siteNearsUptoRow.holds Try.pinned (OpenSpec.upto siteNearsSpec)

end Rows
end Go.Proofs.Ytaohnialheccdaa
