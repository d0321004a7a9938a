/-
  No cell of these rows narrows 'for every input' (looked for: loops, veiled, ifaces, maps, wideKeys, modest, calm, conditions, laid).
  DERIVED. THE GIVEN ROWS OF THIS SEAT. 12 by the template 'for every input the law returns true; each argument reads behind the call as it read before'; 0 by the template 'total and deterministic' (their statements: YtfhgjopoohfhjaaTotals.lean).
  GIVEN WITH THE SEED: the statements are not yours to turn. If you find one false, say at which input.
  Laid BY PROGRAM, IN A SANDBOX (cutbox-rows.mjs): the forced cells as the released guide's own fill.sh prints them over the translation 4cfcb3e34ef36661… (all of the seat's roots in one cut). By AI agents, Wed Nov 11 2026. No macro, syntax, notation, axiom, sorry.
-/
import Derived.Test.YtfhgjopoohfhjaaChecked
import GoSem.Claim
import GoSem.ClaimJoined
import GoSem.ClaimMapViews
import Derived.JoinedTies
import Derived.KernelRfl
namespace Go.Proofs.Ytfhgjopoohfhjaa
/- THE CELL 'sum', in the pinned program and in every row, IS THE sha256 OF THE DUMP (.gsa) THAT YtfhgjopoohfhjaaProg.lean LOADS. Nothing in Lean hashes anything: it is a label: what it is worth is what the hold of that sum in a sandbox is worth. -/
noncomputable def Try.pinned : Pinned := { name := "ytfhgjopoohfhjaa", sum := "4cfcb3e34ef366615f5182d641d0d98ef1300db28725b2d1e260f23a31995d10", checked := Try.checked }
namespace Rows
def none {H : Type} : Left H := { results := [], args := [] }

/-- 'coldframelaw14.DiaryRecords': WHATEVER THE INPUT: true; the input reads as it did. -/
def diaryRecordsSpec : ChangeSpec := { name := "diaryRecords", fn := fun _ => fun
  | [d1, d2, d3] => { results := [.lit (.bool true)], args := [d1, d2, d3] }
  | _ => none }
def diaryRecordsRow : OpenClaim := { program := "ytfhgjopoohfhjaa", sum := "4cfcb3e34ef366615f5182d641d0d98ef1300db28725b2d1e260f23a31995d10", func := "coldframe/coldframelaw14.DiaryRecords", spec := "diaryRecords", plainKeys := false, apart := false }
def DiaryRecordsSaid : Prop := diaryRecordsRow.holds Try.pinned (OpenSpec.ofChange diaryRecordsSpec)

/-- ITS FALSE NEIGHBOUR: 'it returns false'. Refute it at one input. -/
def diaryRecordsWrong : ChangeSpec := { name := "diaryRecords", fn := fun _ => fun
  | [d1, d2, d3] => { results := [.lit (.bool false)], args := [d1, d2, d3] }
  | _ => none }
def DiaryRecordsWrongFalsely : Prop := diaryRecordsRow.holds Try.pinned (OpenSpec.ofChange diaryRecordsWrong)

/-- 'coldframelaw14.DiaryKeeps': WHATEVER THE INPUT: true; the input reads as it did. -/
def diaryKeepsSpec : ChangeSpec := { name := "diaryKeeps", fn := fun _ => fun
  | [d1, d2, d3, d4] => { results := [.lit (.bool true)], args := [d1, d2, d3, d4] }
  | _ => none }
def diaryKeepsRow : OpenClaim := { program := "ytfhgjopoohfhjaa", sum := "4cfcb3e34ef366615f5182d641d0d98ef1300db28725b2d1e260f23a31995d10", func := "coldframe/coldframelaw14.DiaryKeeps", spec := "diaryKeeps", plainKeys := false, apart := false }
def DiaryKeepsSaid : Prop := diaryKeepsRow.holds Try.pinned (OpenSpec.ofChange diaryKeepsSpec)

/-- ITS FALSE NEIGHBOUR: 'it returns false'. Refute it at one input. -/
def diaryKeepsWrong : ChangeSpec := { name := "diaryKeeps", fn := fun _ => fun
  | [d1, d2, d3, d4] => { results := [.lit (.bool false)], args := [d1, d2, d3, d4] }
  | _ => none }
def DiaryKeepsWrongFalsely : Prop := diaryKeepsRow.holds Try.pinned (OpenSpec.ofChange diaryKeepsWrong)

/-- 'coldframelaw28.ScriptNames': WHATEVER THE INPUT: true; the input reads as it did. -/
def scriptNamesSpec : ChangeSpec := { name := "scriptNames", fn := fun _ => fun
  | [d1, d2, d3] => { results := [.lit (.bool true)], args := [d1, d2, d3] }
  | _ => none }
def scriptNamesRow : OpenClaim := { program := "ytfhgjopoohfhjaa", sum := "4cfcb3e34ef366615f5182d641d0d98ef1300db28725b2d1e260f23a31995d10", func := "coldframe/coldframelaw28.ScriptNames", spec := "scriptNames", inPlace := ["internal/bytealg.IndexByteString", "internal/bytealg.IndexString"], recurses := true, named := ["internal/bytealg.MaxLen"], plainKeys := false, apart := false }
def ScriptNamesSaid : Prop := scriptNamesRow.holds Try.pinned (OpenSpec.ofChange scriptNamesSpec)

/-- ITS FALSE NEIGHBOUR: 'it returns false'. Refute it at one input. -/
def scriptNamesWrong : ChangeSpec := { name := "scriptNames", fn := fun _ => fun
  | [d1, d2, d3] => { results := [.lit (.bool false)], args := [d1, d2, d3] }
  | _ => none }
def ScriptNamesWrongFalsely : Prop := scriptNamesRow.holds Try.pinned (OpenSpec.ofChange scriptNamesWrong)

/-- 'coldframelaw14.DiaryPlays': WHATEVER THE INPUT: true; the input reads as it did. -/
def diaryPlaysSpec : ChangeSpec := { name := "diaryPlays", fn := fun _ => fun
  | [d1, d2] => { results := [.lit (.bool true)], args := [d1, d2] }
  | _ => none }
def diaryPlaysRow : OpenClaim := { program := "ytfhgjopoohfhjaa", sum := "4cfcb3e34ef366615f5182d641d0d98ef1300db28725b2d1e260f23a31995d10", func := "coldframe/coldframelaw14.DiaryPlays", spec := "diaryPlays", plainKeys := false, apart := false }
def DiaryPlaysSaid : Prop := diaryPlaysRow.holds Try.pinned (OpenSpec.ofChange diaryPlaysSpec)

/-- ITS FALSE NEIGHBOUR: 'it returns false'. Refute it at one input. -/
def diaryPlaysWrong : ChangeSpec := { name := "diaryPlays", fn := fun _ => fun
  | [d1, d2] => { results := [.lit (.bool false)], args := [d1, d2] }
  | _ => none }
def DiaryPlaysWrongFalsely : Prop := diaryPlaysRow.holds Try.pinned (OpenSpec.ofChange diaryPlaysWrong)

/-- 'coldframelaw28.ScriptReads': WHATEVER THE INPUT: true; the input reads as it did. -/
def scriptReadsSpec : ChangeSpec := { name := "scriptReads", fn := fun _ => fun
  | [d] => { results := [.lit (.bool true)], args := [d] }
  | _ => none }
def scriptReadsRow : OpenClaim := { program := "ytfhgjopoohfhjaa", sum := "4cfcb3e34ef366615f5182d641d0d98ef1300db28725b2d1e260f23a31995d10", func := "coldframe/coldframelaw28.ScriptReads", spec := "scriptReads", inPlace := ["internal/bytealg.IndexByteString", "internal/bytealg.IndexString", "internal/abi.NoEscape"], recurses := true, named := ["internal/bytealg.MaxLen"], plainKeys := false, apart := false }
def ScriptReadsSaid : Prop := scriptReadsRow.holds Try.pinned (OpenSpec.ofChange scriptReadsSpec)

/-- ITS FALSE NEIGHBOUR: 'it returns false'. Refute it at one input. -/
def scriptReadsWrong : ChangeSpec := { name := "scriptReads", fn := fun _ => fun
  | [d] => { results := [.lit (.bool false)], args := [d] }
  | _ => none }
def ScriptReadsWrongFalsely : Prop := scriptReadsRow.holds Try.pinned (OpenSpec.ofChange scriptReadsWrong)

/-- 'coldframelaw28.ScriptWrites': WHATEVER THE INPUT: true; the input reads as it did. -/
def scriptWritesSpec : ChangeSpec := { name := "scriptWrites", fn := fun _ => fun
  | [d] => { results := [.lit (.bool true)], args := [d] }
  | _ => none }
def scriptWritesRow : OpenClaim := { program := "ytfhgjopoohfhjaa", sum := "4cfcb3e34ef366615f5182d641d0d98ef1300db28725b2d1e260f23a31995d10", func := "coldframe/coldframelaw28.ScriptWrites", spec := "scriptWrites", inPlace := ["internal/bytealg.IndexByteString", "internal/bytealg.IndexString", "internal/abi.NoEscape"], recurses := true, named := ["internal/bytealg.MaxLen"], plainKeys := false, apart := false }
def ScriptWritesSaid : Prop := scriptWritesRow.holds Try.pinned (OpenSpec.ofChange scriptWritesSpec)

/-- ITS FALSE NEIGHBOUR: 'it returns false'. Refute it at one input. -/
def scriptWritesWrong : ChangeSpec := { name := "scriptWrites", fn := fun _ => fun
  | [d] => { results := [.lit (.bool false)], args := [d] }
  | _ => none }
def ScriptWritesWrongFalsely : Prop := scriptWritesRow.holds Try.pinned (OpenSpec.ofChange scriptWritesWrong)

/-- 'coldframelaw12.VaultKeeps': WHATEVER THE INPUT: true; the input reads as it did. -/
def vaultKeepsSpec : ChangeSpec := { name := "vaultKeeps", fn := fun _ => fun
  | [d1, d2, d3, d4, d5] => { results := [.lit (.bool true)], args := [d1, d2, d3, d4, d5] }
  | _ => none }
def vaultKeepsRow : OpenClaim := { program := "ytfhgjopoohfhjaa", sum := "4cfcb3e34ef366615f5182d641d0d98ef1300db28725b2d1e260f23a31995d10", func := "coldframe/coldframelaw12.VaultKeeps", spec := "vaultKeeps", plainKeys := false, apart := false }
def VaultKeepsSaid : Prop := vaultKeepsRow.holds Try.pinned (OpenSpec.ofChange vaultKeepsSpec)

/-- ITS FALSE NEIGHBOUR: 'it returns false'. Refute it at one input. -/
def vaultKeepsWrong : ChangeSpec := { name := "vaultKeeps", fn := fun _ => fun
  | [d1, d2, d3, d4, d5] => { results := [.lit (.bool false)], args := [d1, d2, d3, d4, d5] }
  | _ => none }
def VaultKeepsWrongFalsely : Prop := vaultKeepsRow.holds Try.pinned (OpenSpec.ofChange vaultKeepsWrong)

/-- 'coldframelaw20.TableApart': WHATEVER THE INPUT: true; the input reads as it did. -/
def tableApartSpec : ChangeSpec := { name := "tableApart", fn := fun _ => fun
  | [d1, d2, d3] => { results := [.lit (.bool true)], args := [d1, d2, d3] }
  | _ => none }
def tableApartRow : OpenClaim := { program := "ytfhgjopoohfhjaa", sum := "4cfcb3e34ef366615f5182d641d0d98ef1300db28725b2d1e260f23a31995d10", func := "coldframe/coldframelaw20.TableApart", spec := "tableApart", inPlace := ["internal/bytealg.abigen_runtime_cmpstring", "slices.overlaps[coldframe/table.Object]"], unfollowed := true, recurses := true, plainKeys := false, apart := false }
def TableApartSaid : Prop := tableApartRow.holds Try.pinned (OpenSpec.ofChange tableApartSpec)

/-- ITS FALSE NEIGHBOUR: 'it returns false'. Refute it at one input. -/
def tableApartWrong : ChangeSpec := { name := "tableApart", fn := fun _ => fun
  | [d1, d2, d3] => { results := [.lit (.bool false)], args := [d1, d2, d3] }
  | _ => none }
def TableApartWrongFalsely : Prop := tableApartRow.holds Try.pinned (OpenSpec.ofChange tableApartWrong)

/-- 'coldframelaw37.BtreeSpans': WHATEVER THE INPUT: true; the input reads as it did. -/
def btreeSpansSpec : ChangeSpec := { name := "btreeSpans", fn := fun _ => fun
  | [d1, d2, d3, d4] => { results := [.lit (.bool true)], args := [d1, d2, d3, d4] }
  | _ => none }
def btreeSpansRow : OpenClaim := { program := "ytfhgjopoohfhjaa", sum := "4cfcb3e34ef366615f5182d641d0d98ef1300db28725b2d1e260f23a31995d10", func := "coldframe/coldframelaw37.BtreeSpans", spec := "btreeSpans", inPlace := ["slices.overlaps[coldframe/btree.Pair]", "slices.overlaps[*coldframe/btree.node]", "internal/bytealg.abigen_runtime_cmpstring"], unfollowed := true, recurses := true, plainKeys := false, apart := false }
def BtreeSpansSaid : Prop := btreeSpansRow.holds Try.pinned (OpenSpec.ofChange btreeSpansSpec)

/-- ITS FALSE NEIGHBOUR: 'it returns false'. Refute it at one input. -/
def btreeSpansWrong : ChangeSpec := { name := "btreeSpans", fn := fun _ => fun
  | [d1, d2, d3, d4] => { results := [.lit (.bool false)], args := [d1, d2, d3, d4] }
  | _ => none }
def BtreeSpansWrongFalsely : Prop := btreeSpansRow.holds Try.pinned (OpenSpec.ofChange btreeSpansWrong)

/-- 'coldframelaw20.TablePlays': WHATEVER THE INPUT: true; the input reads as it did. -/
def tablePlaysSpec : ChangeSpec := { name := "tablePlays", fn := fun _ => fun
  | [d1, d2, d3] => { results := [.lit (.bool true)], args := [d1, d2, d3] }
  | _ => none }
def tablePlaysRow : OpenClaim := { program := "ytfhgjopoohfhjaa", sum := "4cfcb3e34ef366615f5182d641d0d98ef1300db28725b2d1e260f23a31995d10", func := "coldframe/coldframelaw20.TablePlays", spec := "tablePlays", inPlace := ["internal/bytealg.abigen_runtime_cmpstring", "slices.overlaps[coldframe/table.Object]"], unfollowed := true, recurses := true, plainKeys := false, apart := false }
def TablePlaysSaid : Prop := tablePlaysRow.holds Try.pinned (OpenSpec.ofChange tablePlaysSpec)

/-- ITS FALSE NEIGHBOUR: 'it returns false'. Refute it at one input. -/
def tablePlaysWrong : ChangeSpec := { name := "tablePlays", fn := fun _ => fun
  | [d1, d2, d3] => { results := [.lit (.bool false)], args := [d1, d2, d3] }
  | _ => none }
def TablePlaysWrongFalsely : Prop := tablePlaysRow.holds Try.pinned (OpenSpec.ofChange tablePlaysWrong)

/-- 'coldframelaw37.BtreeOrders': WHATEVER THE INPUT: true; the input reads as it did. -/
def btreeOrdersSpec : ChangeSpec := { name := "btreeOrders", fn := fun _ => fun
  | [d1, d2] => { results := [.lit (.bool true)], args := [d1, d2] }
  | _ => none }
def btreeOrdersRow : OpenClaim := { program := "ytfhgjopoohfhjaa", sum := "4cfcb3e34ef366615f5182d641d0d98ef1300db28725b2d1e260f23a31995d10", func := "coldframe/coldframelaw37.BtreeOrders", spec := "btreeOrders", inPlace := ["slices.overlaps[coldframe/btree.Pair]", "slices.overlaps[*coldframe/btree.node]", "internal/bytealg.abigen_runtime_cmpstring"], unfollowed := true, recurses := true, plainKeys := false, apart := false }
def BtreeOrdersSaid : Prop := btreeOrdersRow.holds Try.pinned (OpenSpec.ofChange btreeOrdersSpec)

/-- ITS FALSE NEIGHBOUR: 'it returns false'. Refute it at one input. -/
def btreeOrdersWrong : ChangeSpec := { name := "btreeOrders", fn := fun _ => fun
  | [d1, d2] => { results := [.lit (.bool false)], args := [d1, d2] }
  | _ => none }
def BtreeOrdersWrongFalsely : Prop := btreeOrdersRow.holds Try.pinned (OpenSpec.ofChange btreeOrdersWrong)

/-- 'coldframelaw37.BtreePlays': WHATEVER THE INPUT: true; the input reads as it did. -/
def btreePlaysSpec : ChangeSpec := { name := "btreePlays", fn := fun _ => fun
  | [d1, d2] => { results := [.lit (.bool true)], args := [d1, d2] }
  | _ => none }
def btreePlaysRow : OpenClaim := { program := "ytfhgjopoohfhjaa", sum := "4cfcb3e34ef366615f5182d641d0d98ef1300db28725b2d1e260f23a31995d10", func := "coldframe/coldframelaw37.BtreePlays", spec := "btreePlays", inPlace := ["slices.overlaps[coldframe/btree.Pair]", "slices.overlaps[*coldframe/btree.node]", "internal/bytealg.abigen_runtime_cmpstring"], unfollowed := true, recurses := true, plainKeys := false, apart := false }
def BtreePlaysSaid : Prop := btreePlaysRow.holds Try.pinned (OpenSpec.ofChange btreePlaysSpec)

/-- ITS FALSE NEIGHBOUR: 'it returns false'. Refute it at one input. -/
def btreePlaysWrong : ChangeSpec := { name := "btreePlays", fn := fun _ => fun
  | [d1, d2] => { results := [.lit (.bool false)], args := [d1, d2] }
  | _ => none }
def BtreePlaysWrongFalsely : Prop := btreePlaysRow.holds Try.pinned (OpenSpec.ofChange btreePlaysWrong)

/- THE SECOND FORM. 'bulk': how many values and letters a reading holds, each counted each time it is reached (what is shared counts as often as it is met; a slice's spare places count too). A statement '..UptoSaid' is the law's where the arguments, and the package variables that the reading takes, are together of bulk at most 1048576: NARROWER than '..Said'. Prove '..Said' where nothing that the law and all that it calls make is longer than what came in: it says more and counts as full. Else prove '..UptoSaid'. A law counts once. -/
mutual
def uptoBulk {H : Type} : DataW H → Nat
  | .lit (.string bytes) => bytes.length + 1
  | .lit _ => 1
  | .nil => 1
  | .ptr d => uptoBulk d + 1
  | .slice elems spare => uptoBulkAll elems + uptoBulkAll spare + 1
  | .agg parts => uptoBulkAll parts + 1
  | .iface _ d => uptoBulk d + 1
  | .map entries => uptoBulkEntries entries + 1
  | .held _ => 1
def uptoBulkAll {H : Type} : List (DataW H) → Nat
  | [] => 0
  | d :: r => uptoBulk d + uptoBulkAll r
def uptoBulkEntries {H : Type} : List (Lit × DataW H) → Nat
  | [] => 0
  | x :: r => uptoBulkEntry x + uptoBulkEntries r
def uptoBulkEntry {H : Type} : Lit × DataW H → Nat
  | (.string bytes, d) => bytes.length + uptoBulk d + 1
  | (_, d) => uptoBulk d + 1
 end
def uptoSmall : (H : Type) → List (DataW H) → Bool := fun _ ds => decide (uptoBulkAll ds ≤ 1048576)
def OpenSpec.upto (s : _root_.Go.ChangeSpec) : _root_.Go.OpenSpec := { _root_.Go.OpenSpec.ofChange s with cond := some uptoSmall }

/-- 'coldframelaw14.DiaryRecords', WHERE WHAT IT READS IS OF BULK AT MOST 1048576: true; the input reads as it did. -/
def diaryRecordsUptoRow : OpenClaim := { program := "ytfhgjopoohfhjaa", sum := "4cfcb3e34ef366615f5182d641d0d98ef1300db28725b2d1e260f23a31995d10", func := "coldframe/coldframelaw14.DiaryRecords", spec := "diaryRecords", plainKeys := false, apart := false, narrowed := true }
def DiaryRecordsUptoSaid : Prop := diaryRecordsUptoRow.holds Try.pinned (OpenSpec.upto diaryRecordsSpec)

/-- 'coldframelaw14.DiaryKeeps', WHERE WHAT IT READS IS OF BULK AT MOST 1048576: true; the input reads as it did. -/
def diaryKeepsUptoRow : OpenClaim := { program := "ytfhgjopoohfhjaa", sum := "4cfcb3e34ef366615f5182d641d0d98ef1300db28725b2d1e260f23a31995d10", func := "coldframe/coldframelaw14.DiaryKeeps", spec := "diaryKeeps", plainKeys := false, apart := false, narrowed := true }
def DiaryKeepsUptoSaid : Prop := diaryKeepsUptoRow.holds Try.pinned (OpenSpec.upto diaryKeepsSpec)

/-- 'coldframelaw28.ScriptNames', WHERE WHAT IT READS IS OF BULK AT MOST 1048576: true; the input reads as it did. -/
def scriptNamesUptoRow : OpenClaim := { program := "ytfhgjopoohfhjaa", sum := "4cfcb3e34ef366615f5182d641d0d98ef1300db28725b2d1e260f23a31995d10", func := "coldframe/coldframelaw28.ScriptNames", spec := "scriptNames", inPlace := ["internal/bytealg.IndexByteString", "internal/bytealg.IndexString"], recurses := true, named := ["internal/bytealg.MaxLen"], plainKeys := false, apart := false, narrowed := true }
def ScriptNamesUptoSaid : Prop := scriptNamesUptoRow.holds Try.pinned (OpenSpec.upto scriptNamesSpec)

/-- 'coldframelaw14.DiaryPlays', WHERE WHAT IT READS IS OF BULK AT MOST 1048576: true; the input reads as it did. -/
def diaryPlaysUptoRow : OpenClaim := { program := "ytfhgjopoohfhjaa", sum := "4cfcb3e34ef366615f5182d641d0d98ef1300db28725b2d1e260f23a31995d10", func := "coldframe/coldframelaw14.DiaryPlays", spec := "diaryPlays", plainKeys := false, apart := false, narrowed := true }
def DiaryPlaysUptoSaid : Prop := diaryPlaysUptoRow.holds Try.pinned (OpenSpec.upto diaryPlaysSpec)

/-- 'coldframelaw28.ScriptReads', WHERE WHAT IT READS IS OF BULK AT MOST 1048576: true; the input reads as it did. -/
def scriptReadsUptoRow : OpenClaim := { program := "ytfhgjopoohfhjaa", sum := "4cfcb3e34ef366615f5182d641d0d98ef1300db28725b2d1e260f23a31995d10", func := "coldframe/coldframelaw28.ScriptReads", spec := "scriptReads", inPlace := ["internal/bytealg.IndexByteString", "internal/bytealg.IndexString", "internal/abi.NoEscape"], recurses := true, named := ["internal/bytealg.MaxLen"], plainKeys := false, apart := false, narrowed := true }
def ScriptReadsUptoSaid : Prop := scriptReadsUptoRow.holds Try.pinned (OpenSpec.upto scriptReadsSpec)

/-- 'coldframelaw28.ScriptWrites', WHERE WHAT IT READS IS OF BULK AT MOST 1048576: true; the input reads as it did. -/
def scriptWritesUptoRow : OpenClaim := { program := "ytfhgjopoohfhjaa", sum := "4cfcb3e34ef366615f5182d641d0d98ef1300db28725b2d1e260f23a31995d10", func := "coldframe/coldframelaw28.ScriptWrites", spec := "scriptWrites", inPlace := ["internal/bytealg.IndexByteString", "internal/bytealg.IndexString", "internal/abi.NoEscape"], recurses := true, named := ["internal/bytealg.MaxLen"], plainKeys := false, apart := false, narrowed := true }
def ScriptWritesUptoSaid : Prop := scriptWritesUptoRow.holds Try.pinned (OpenSpec.upto scriptWritesSpec)

/-- 'coldframelaw12.VaultKeeps', WHERE WHAT IT READS IS OF BULK AT MOST 1048576: true; the input reads as it did. -/
def vaultKeepsUptoRow : OpenClaim := { program := "ytfhgjopoohfhjaa", sum := "4cfcb3e34ef366615f5182d641d0d98ef1300db28725b2d1e260f23a31995d10", func := "coldframe/coldframelaw12.VaultKeeps", spec := "vaultKeeps", plainKeys := false, apart := false, narrowed := true }
def VaultKeepsUptoSaid : Prop := vaultKeepsUptoRow.holds Try.pinned (OpenSpec.upto vaultKeepsSpec)

/-- 'coldframelaw20.TableApart', WHERE WHAT IT READS IS OF BULK AT MOST 1048576: true; the input reads as it did. -/
def tableApartUptoRow : OpenClaim := { program := "ytfhgjopoohfhjaa", sum := "4cfcb3e34ef366615f5182d641d0d98ef1300db28725b2d1e260f23a31995d10", func := "coldframe/coldframelaw20.TableApart", spec := "tableApart", inPlace := ["internal/bytealg.abigen_runtime_cmpstring", "slices.overlaps[coldframe/table.Object]"], unfollowed := true, recurses := true, plainKeys := false, apart := false, narrowed := true }
def TableApartUptoSaid : Prop := tableApartUptoRow.holds Try.pinned (OpenSpec.upto tableApartSpec)

/-- 'coldframelaw37.BtreeSpans', WHERE WHAT IT READS IS OF BULK AT MOST 1048576: true; the input reads as it did. -/
def btreeSpansUptoRow : OpenClaim := { program := "ytfhgjopoohfhjaa", sum := "4cfcb3e34ef366615f5182d641d0d98ef1300db28725b2d1e260f23a31995d10", func := "coldframe/coldframelaw37.BtreeSpans", spec := "btreeSpans", inPlace := ["slices.overlaps[coldframe/btree.Pair]", "slices.overlaps[*coldframe/btree.node]", "internal/bytealg.abigen_runtime_cmpstring"], unfollowed := true, recurses := true, plainKeys := false, apart := false, narrowed := true }
def BtreeSpansUptoSaid : Prop := btreeSpansUptoRow.holds Try.pinned (OpenSpec.upto btreeSpansSpec)

/-- 'coldframelaw20.TablePlays', WHERE WHAT IT READS IS OF BULK AT MOST 1048576: true; the input reads as it did. -/
def tablePlaysUptoRow : OpenClaim := { program := "ytfhgjopoohfhjaa", sum := "4cfcb3e34ef366615f5182d641d0d98ef1300db28725b2d1e260f23a31995d10", func := "coldframe/coldframelaw20.TablePlays", spec := "tablePlays", inPlace := ["internal/bytealg.abigen_runtime_cmpstring", "slices.overlaps[coldframe/table.Object]"], unfollowed := true, recurses := true, plainKeys := false, apart := false, narrowed := true }
def TablePlaysUptoSaid : Prop := tablePlaysUptoRow.holds Try.pinned (OpenSpec.upto tablePlaysSpec)

/-- 'coldframelaw37.BtreeOrders', WHERE WHAT IT READS IS OF BULK AT MOST 1048576: true; the input reads as it did. -/
def btreeOrdersUptoRow : OpenClaim := { program := "ytfhgjopoohfhjaa", sum := "4cfcb3e34ef366615f5182d641d0d98ef1300db28725b2d1e260f23a31995d10", func := "coldframe/coldframelaw37.BtreeOrders", spec := "btreeOrders", inPlace := ["slices.overlaps[coldframe/btree.Pair]", "slices.overlaps[*coldframe/btree.node]", "internal/bytealg.abigen_runtime_cmpstring"], unfollowed := true, recurses := true, plainKeys := false, apart := false, narrowed := true }
def BtreeOrdersUptoSaid : Prop := btreeOrdersUptoRow.holds Try.pinned (OpenSpec.upto btreeOrdersSpec)

/-- 'coldframelaw37.BtreePlays', WHERE WHAT IT READS IS OF BULK AT MOST 1048576: true; the input reads as it did. -/
def btreePlaysUptoRow : OpenClaim := { program := "ytfhgjopoohfhjaa", sum := "4cfcb3e34ef366615f5182d641d0d98ef1300db28725b2d1e260f23a31995d10", func := "coldframe/coldframelaw37.BtreePlays", spec := "btreePlays", inPlace := ["slices.overlaps[coldframe/btree.Pair]", "slices.overlaps[*coldframe/btree.node]", "internal/bytealg.abigen_runtime_cmpstring"], unfollowed := true, recurses := true, plainKeys := false, apart := false, narrowed := true }
def BtreePlaysUptoSaid : Prop := btreePlaysUptoRow.holds Try.pinned (OpenSpec.upto btreePlaysSpec)

end Rows
end Go.Proofs.Ytfhgjopoohfhjaa
