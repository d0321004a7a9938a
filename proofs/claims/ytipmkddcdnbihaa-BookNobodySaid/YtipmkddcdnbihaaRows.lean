/-
  No cell of these rows narrows 'for every input' (looked for: loops, veiled, ifaces, maps, wideKeys, modest, calm, conditions, laid).
  DERIVED. THE GIVEN ROWS OF THIS SEAT. 10 by the template 'for every input the law returns true; each argument reads behind the call as it read before'; 0 by the template 'total and deterministic' (their statements: YtipmkddcdnbihaaTotals.lean).
  GIVEN WITH THE SEED: the statements are not yours to turn. If you find one false, say at which input.
  Laid BY PROGRAM, IN A SANDBOX (cutbox-rows.mjs): the forced cells as the released guide's own fill.sh prints them over the translation 30adda261d3478dd… (all of the seat's roots in one cut). By AI agents, Wed Nov 11 2026. No macro, syntax, notation, axiom, sorry.
-/
import Derived.Test.YtipmkddcdnbihaaChecked
import GoSem.Claim
import GoSem.ClaimJoined
import GoSem.ClaimMapViews
import Derived.JoinedTies
import Derived.KernelRfl
namespace Go.Proofs.Ytipmkddcdnbihaa
/- THE CELL 'sum', in the pinned program and in every row, IS THE sha256 OF THE DUMP (.gsa) THAT YtipmkddcdnbihaaProg.lean LOADS. Nothing in Lean hashes anything: it is a label: what it is worth is what the hold of that sum in a sandbox is worth. -/
noncomputable def Try.pinned : Pinned := { name := "ytipmkddcdnbihaa", sum := "30adda261d3478dd091da1c2cdffc028689a05bcca940a6b11e1c9798b5c3910", checked := Try.checked }
namespace Rows
def none {H : Type} : Left H := { results := [], args := [] }

/-- 'coldframelaw19.UrgentOrders': WHATEVER THE INPUT: true; the input reads as it did. -/
def urgentOrdersSpec : ChangeSpec := { name := "urgentOrders", fn := fun _ => fun
  | [d] => { results := [.lit (.bool true)], args := [d] }
  | _ => none }
def urgentOrdersRow : OpenClaim := { program := "ytipmkddcdnbihaa", sum := "30adda261d3478dd091da1c2cdffc028689a05bcca940a6b11e1c9798b5c3910", func := "coldframe/coldframelaw19.UrgentOrders", spec := "urgentOrders", unfollowed := true, recurses := true, plainKeys := false, apart := false }
def UrgentOrdersSaid : Prop := urgentOrdersRow.holds Try.pinned (OpenSpec.ofChange urgentOrdersSpec)

/-- ITS FALSE NEIGHBOUR: 'it returns false'. Refute it at one input. -/
def urgentOrdersWrong : ChangeSpec := { name := "urgentOrders", fn := fun _ => fun
  | [d] => { results := [.lit (.bool false)], args := [d] }
  | _ => none }
def UrgentOrdersWrongFalsely : Prop := urgentOrdersRow.holds Try.pinned (OpenSpec.ofChange urgentOrdersWrong)

/-- 'coldframelaw19.UrgentPlays': WHATEVER THE INPUT: true; the input reads as it did. -/
def urgentPlaysSpec : ChangeSpec := { name := "urgentPlays", fn := fun _ => fun
  | [d1, d2] => { results := [.lit (.bool true)], args := [d1, d2] }
  | _ => none }
def urgentPlaysRow : OpenClaim := { program := "ytipmkddcdnbihaa", sum := "30adda261d3478dd091da1c2cdffc028689a05bcca940a6b11e1c9798b5c3910", func := "coldframe/coldframelaw19.UrgentPlays", spec := "urgentPlays", unfollowed := true, recurses := true, plainKeys := false, apart := false }
def UrgentPlaysSaid : Prop := urgentPlaysRow.holds Try.pinned (OpenSpec.ofChange urgentPlaysSpec)

/-- ITS FALSE NEIGHBOUR: 'it returns false'. Refute it at one input. -/
def urgentPlaysWrong : ChangeSpec := { name := "urgentPlays", fn := fun _ => fun
  | [d1, d2] => { results := [.lit (.bool false)], args := [d1, d2] }
  | _ => none }
def UrgentPlaysWrongFalsely : Prop := urgentPlaysRow.holds Try.pinned (OpenSpec.ofChange urgentPlaysWrong)

/-- 'coldframelaw34.HuffLengths': WHATEVER THE INPUT: true; the input reads as it did. -/
def huffLengthsSpec : ChangeSpec := { name := "huffLengths", fn := fun _ => fun
  | [d1, d2] => { results := [.lit (.bool true)], args := [d1, d2] }
  | _ => none }
def huffLengthsRow : OpenClaim := { program := "ytipmkddcdnbihaa", sum := "30adda261d3478dd091da1c2cdffc028689a05bcca940a6b11e1c9798b5c3910", func := "coldframe/coldframelaw34.HuffLengths", spec := "huffLengths", unfollowed := true, recurses := true, plainKeys := false, apart := false }
def HuffLengthsSaid : Prop := huffLengthsRow.holds Try.pinned (OpenSpec.ofChange huffLengthsSpec)

/-- ITS FALSE NEIGHBOUR: 'it returns false'. Refute it at one input. -/
def huffLengthsWrong : ChangeSpec := { name := "huffLengths", fn := fun _ => fun
  | [d1, d2] => { results := [.lit (.bool false)], args := [d1, d2] }
  | _ => none }
def HuffLengthsWrongFalsely : Prop := huffLengthsRow.holds Try.pinned (OpenSpec.ofChange huffLengthsWrong)

/-- 'coldframelaw34.HuffCodes': WHATEVER THE INPUT: true; the input reads as it did. -/
def huffCodesSpec : ChangeSpec := { name := "huffCodes", fn := fun _ => fun
  | [d] => { results := [.lit (.bool true)], args := [d] }
  | _ => none }
def huffCodesRow : OpenClaim := { program := "ytipmkddcdnbihaa", sum := "30adda261d3478dd091da1c2cdffc028689a05bcca940a6b11e1c9798b5c3910", func := "coldframe/coldframelaw34.HuffCodes", spec := "huffCodes", unfollowed := true, recurses := true, plainKeys := false, apart := false }
def HuffCodesSaid : Prop := huffCodesRow.holds Try.pinned (OpenSpec.ofChange huffCodesSpec)

/-- ITS FALSE NEIGHBOUR: 'it returns false'. Refute it at one input. -/
def huffCodesWrong : ChangeSpec := { name := "huffCodes", fn := fun _ => fun
  | [d] => { results := [.lit (.bool false)], args := [d] }
  | _ => none }
def HuffCodesWrongFalsely : Prop := huffCodesRow.holds Try.pinned (OpenSpec.ofChange huffCodesWrong)

/-- 'coldframelaw21.BookNobody': WHATEVER THE INPUT: true; the input reads as it did. -/
def bookNobodySpec : ChangeSpec := { name := "bookNobody", fn := fun _ => fun
  | [d1, d2, d3] => { results := [.lit (.bool true)], args := [d1, d2, d3] }
  | _ => none }
def bookNobodyRow : OpenClaim := { program := "ytipmkddcdnbihaa", sum := "30adda261d3478dd091da1c2cdffc028689a05bcca940a6b11e1c9798b5c3910", func := "coldframe/coldframelaw21.BookNobody", spec := "bookNobody", inPlace := ["internal/bytealg.abigen_runtime_cmpstring", "slices.overlaps[coldframe/table.Object]"], unfollowed := true, recurses := true, plainKeys := false, apart := false }
def BookNobodySaid : Prop := bookNobodyRow.holds Try.pinned (OpenSpec.ofChange bookNobodySpec)

/-- ITS FALSE NEIGHBOUR: 'it returns false'. Refute it at one input. -/
def bookNobodyWrong : ChangeSpec := { name := "bookNobody", fn := fun _ => fun
  | [d1, d2, d3] => { results := [.lit (.bool false)], args := [d1, d2, d3] }
  | _ => none }
def BookNobodyWrongFalsely : Prop := bookNobodyRow.holds Try.pinned (OpenSpec.ofChange bookNobodyWrong)

/-- 'coldframelaw21.BookKeeps': WHATEVER THE INPUT: true; the input reads as it did. -/
def bookKeepsSpec : ChangeSpec := { name := "bookKeeps", fn := fun _ => fun
  | [d1, d2, d3, d4] => { results := [.lit (.bool true)], args := [d1, d2, d3, d4] }
  | _ => none }
def bookKeepsRow : OpenClaim := { program := "ytipmkddcdnbihaa", sum := "30adda261d3478dd091da1c2cdffc028689a05bcca940a6b11e1c9798b5c3910", func := "coldframe/coldframelaw21.BookKeeps", spec := "bookKeeps", inPlace := ["internal/bytealg.abigen_runtime_cmpstring", "slices.overlaps[coldframe/table.Object]"], unfollowed := true, recurses := true, plainKeys := false, apart := false }
def BookKeepsSaid : Prop := bookKeepsRow.holds Try.pinned (OpenSpec.ofChange bookKeepsSpec)

/-- ITS FALSE NEIGHBOUR: 'it returns false'. Refute it at one input. -/
def bookKeepsWrong : ChangeSpec := { name := "bookKeeps", fn := fun _ => fun
  | [d1, d2, d3, d4] => { results := [.lit (.bool false)], args := [d1, d2, d3, d4] }
  | _ => none }
def BookKeepsWrongFalsely : Prop := bookKeepsRow.holds Try.pinned (OpenSpec.ofChange bookKeepsWrong)

/-- 'coldframelaw34.HuffPacks': WHATEVER THE INPUT: true; the input reads as it did. -/
def huffPacksSpec : ChangeSpec := { name := "huffPacks", fn := fun _ => fun
  | [d] => { results := [.lit (.bool true)], args := [d] }
  | _ => none }
def huffPacksRow : OpenClaim := { program := "ytipmkddcdnbihaa", sum := "30adda261d3478dd091da1c2cdffc028689a05bcca940a6b11e1c9798b5c3910", func := "coldframe/coldframelaw34.HuffPacks", spec := "huffPacks", unfollowed := true, recurses := true, plainKeys := false, apart := false }
def HuffPacksSaid : Prop := huffPacksRow.holds Try.pinned (OpenSpec.ofChange huffPacksSpec)

/-- ITS FALSE NEIGHBOUR: 'it returns false'. Refute it at one input. -/
def huffPacksWrong : ChangeSpec := { name := "huffPacks", fn := fun _ => fun
  | [d] => { results := [.lit (.bool false)], args := [d] }
  | _ => none }
def HuffPacksWrongFalsely : Prop := huffPacksRow.holds Try.pinned (OpenSpec.ofChange huffPacksWrong)

/-- 'coldframelaw34.HuffUnpacks': WHATEVER THE INPUT: true; the input reads as it did. -/
def huffUnpacksSpec : ChangeSpec := { name := "huffUnpacks", fn := fun _ => fun
  | [d] => { results := [.lit (.bool true)], args := [d] }
  | _ => none }
def huffUnpacksRow : OpenClaim := { program := "ytipmkddcdnbihaa", sum := "30adda261d3478dd091da1c2cdffc028689a05bcca940a6b11e1c9798b5c3910", func := "coldframe/coldframelaw34.HuffUnpacks", spec := "huffUnpacks", unfollowed := true, recurses := true, plainKeys := false, apart := false }
def HuffUnpacksSaid : Prop := huffUnpacksRow.holds Try.pinned (OpenSpec.ofChange huffUnpacksSpec)

/-- ITS FALSE NEIGHBOUR: 'it returns false'. Refute it at one input. -/
def huffUnpacksWrong : ChangeSpec := { name := "huffUnpacks", fn := fun _ => fun
  | [d] => { results := [.lit (.bool false)], args := [d] }
  | _ => none }
def HuffUnpacksWrongFalsely : Prop := huffUnpacksRow.holds Try.pinned (OpenSpec.ofChange huffUnpacksWrong)

/-- 'coldframelaw12.VaultNobody': WHATEVER THE INPUT: true; the input reads as it did. -/
def vaultNobodySpec : ChangeSpec := { name := "vaultNobody", fn := fun _ => fun
  | [d1, d2] => { results := [.lit (.bool true)], args := [d1, d2] }
  | _ => none }
def vaultNobodyRow : OpenClaim := { program := "ytipmkddcdnbihaa", sum := "30adda261d3478dd091da1c2cdffc028689a05bcca940a6b11e1c9798b5c3910", func := "coldframe/coldframelaw12.VaultNobody", spec := "vaultNobody", unfollowed := true, recurses := true, plainKeys := false, apart := false }
def VaultNobodySaid : Prop := vaultNobodyRow.holds Try.pinned (OpenSpec.ofChange vaultNobodySpec)

/-- ITS FALSE NEIGHBOUR: 'it returns false'. Refute it at one input. -/
def vaultNobodyWrong : ChangeSpec := { name := "vaultNobody", fn := fun _ => fun
  | [d1, d2] => { results := [.lit (.bool false)], args := [d1, d2] }
  | _ => none }
def VaultNobodyWrongFalsely : Prop := vaultNobodyRow.holds Try.pinned (OpenSpec.ofChange vaultNobodyWrong)

/-- 'coldframelaw12.VaultPlays': WHATEVER THE INPUT: true; the input reads as it did. -/
def vaultPlaysSpec : ChangeSpec := { name := "vaultPlays", fn := fun _ => fun
  | [d1, d2, d3] => { results := [.lit (.bool true)], args := [d1, d2, d3] }
  | _ => none }
def vaultPlaysRow : OpenClaim := { program := "ytipmkddcdnbihaa", sum := "30adda261d3478dd091da1c2cdffc028689a05bcca940a6b11e1c9798b5c3910", func := "coldframe/coldframelaw12.VaultPlays", spec := "vaultPlays", unfollowed := true, recurses := true, plainKeys := false, apart := false }
def VaultPlaysSaid : Prop := vaultPlaysRow.holds Try.pinned (OpenSpec.ofChange vaultPlaysSpec)

/-- ITS FALSE NEIGHBOUR: 'it returns false'. Refute it at one input. -/
def vaultPlaysWrong : ChangeSpec := { name := "vaultPlays", fn := fun _ => fun
  | [d1, d2, d3] => { results := [.lit (.bool false)], args := [d1, d2, d3] }
  | _ => none }
def VaultPlaysWrongFalsely : Prop := vaultPlaysRow.holds Try.pinned (OpenSpec.ofChange vaultPlaysWrong)

/- THE SECOND FORM. 'bulk': how many values and letters a reading holds, each counted each time it is reached (what is shared counts as often as it is met; a slice's spare places count too). A statement '..UptoSaid' is the law's where the arguments, and the package variables that the reading takes, are together of bulk at most 1048576: NARROWER than '..Said'. Prove '..Said' where nothing that the law and all that it calls make is longer than what came in: it says more and counts as full. Else prove '..UptoSaid'. A law counts once. -/
mutual
def uptoBulk {H : Type} : DataW H → Nat
  | .lit (.string bytes) => bytes.length + 1
  | .lit _ => 1
  | .nil => 1
  | .ptr d => uptoBulk d + 1
  | .slice elems spare => uptoBulkAll elems + uptoBulkAll spare + 1
  | .agg parts => uptoBulkAll parts + 1
  | .iface _ d => uptoBulk d + 1
  | .map entries => uptoBulkEntries entries + 1
  | .held _ => 1
def uptoBulkAll {H : Type} : List (DataW H) → Nat
  | [] => 0
  | d :: r => uptoBulk d + uptoBulkAll r
def uptoBulkEntries {H : Type} : List (Lit × DataW H) → Nat
  | [] => 0
  | x :: r => uptoBulkEntry x + uptoBulkEntries r
def uptoBulkEntry {H : Type} : Lit × DataW H → Nat
  | (.string bytes, d) => bytes.length + uptoBulk d + 1
  | (_, d) => uptoBulk d + 1
 end
def uptoSmall : (H : Type) → List (DataW H) → Bool := fun _ ds => decide (uptoBulkAll ds ≤ 1048576)
def OpenSpec.upto (s : _root_.Go.ChangeSpec) : _root_.Go.OpenSpec := { _root_.Go.OpenSpec.ofChange s with cond := some uptoSmall }

/-- 'coldframelaw19.UrgentOrders', WHERE WHAT IT READS IS OF BULK AT MOST 1048576: true; the input reads as it did. -/
def urgentOrdersUptoRow : OpenClaim := { program := "ytipmkddcdnbihaa", sum := "30adda261d3478dd091da1c2cdffc028689a05bcca940a6b11e1c9798b5c3910", func := "coldframe/coldframelaw19.UrgentOrders", spec := "urgentOrders", unfollowed := true, recurses := true, plainKeys := false, apart := false, narrowed := true }
def UrgentOrdersUptoSaid : Prop := urgentOrdersUptoRow.holds Try.pinned (OpenSpec.upto urgentOrdersSpec)

/-- 'coldframelaw19.UrgentPlays', WHERE WHAT IT READS IS OF BULK AT MOST 1048576: true; the input reads as it did. -/
def urgentPlaysUptoRow : OpenClaim := { program := "ytipmkddcdnbihaa", sum := "30adda261d3478dd091da1c2cdffc028689a05bcca940a6b11e1c9798b5c3910", func := "coldframe/coldframelaw19.UrgentPlays", spec := "urgentPlays", unfollowed := true, recurses := true, plainKeys := false, apart := false, narrowed := true }
def UrgentPlaysUptoSaid : Prop := urgentPlaysUptoRow.holds Try.pinned (OpenSpec.upto urgentPlaysSpec)

/-- 'coldframelaw34.HuffLengths', WHERE WHAT IT READS IS OF BULK AT MOST 1048576: true; the input reads as it did. -/
def huffLengthsUptoRow : OpenClaim := { program := "ytipmkddcdnbihaa", sum := "30adda261d3478dd091da1c2cdffc028689a05bcca940a6b11e1c9798b5c3910", func := "coldframe/coldframelaw34.HuffLengths", spec := "huffLengths", unfollowed := true, recurses := true, plainKeys := false, apart := false, narrowed := true }
def HuffLengthsUptoSaid : Prop := huffLengthsUptoRow.holds Try.pinned (OpenSpec.upto huffLengthsSpec)

/-- 'coldframelaw34.HuffCodes', WHERE WHAT IT READS IS OF BULK AT MOST 1048576: true; the input reads as it did. -/
def huffCodesUptoRow : OpenClaim := { program := "ytipmkddcdnbihaa", sum := "30adda261d3478dd091da1c2cdffc028689a05bcca940a6b11e1c9798b5c3910", func := "coldframe/coldframelaw34.HuffCodes", spec := "huffCodes", unfollowed := true, recurses := true, plainKeys := false, apart := false, narrowed := true }
def HuffCodesUptoSaid : Prop := huffCodesUptoRow.holds Try.pinned (OpenSpec.upto huffCodesSpec)

/-- 'coldframelaw21.BookNobody', WHERE WHAT IT READS IS OF BULK AT MOST 1048576: true; the input reads as it did. -/
def bookNobodyUptoRow : OpenClaim := { program := "ytipmkddcdnbihaa", sum := "30adda261d3478dd091da1c2cdffc028689a05bcca940a6b11e1c9798b5c3910", func := "coldframe/coldframelaw21.BookNobody", spec := "bookNobody", inPlace := ["internal/bytealg.abigen_runtime_cmpstring", "slices.overlaps[coldframe/table.Object]"], unfollowed := true, recurses := true, plainKeys := false, apart := false, narrowed := true }
def BookNobodyUptoSaid : Prop := bookNobodyUptoRow.holds Try.pinned (OpenSpec.upto bookNobodySpec)

/-- 'coldframelaw21.BookKeeps', WHERE WHAT IT READS IS OF BULK AT MOST 1048576: true; the input reads as it did. -/
def bookKeepsUptoRow : OpenClaim := { program := "ytipmkddcdnbihaa", sum := "30adda261d3478dd091da1c2cdffc028689a05bcca940a6b11e1c9798b5c3910", func := "coldframe/coldframelaw21.BookKeeps", spec := "bookKeeps", inPlace := ["internal/bytealg.abigen_runtime_cmpstring", "slices.overlaps[coldframe/table.Object]"], unfollowed := true, recurses := true, plainKeys := false, apart := false, narrowed := true }
def BookKeepsUptoSaid : Prop := bookKeepsUptoRow.holds Try.pinned (OpenSpec.upto bookKeepsSpec)

/-- 'coldframelaw34.HuffPacks', WHERE WHAT IT READS IS OF BULK AT MOST 1048576: true; the input reads as it did. -/
def huffPacksUptoRow : OpenClaim := { program := "ytipmkddcdnbihaa", sum := "30adda261d3478dd091da1c2cdffc028689a05bcca940a6b11e1c9798b5c3910", func := "coldframe/coldframelaw34.HuffPacks", spec := "huffPacks", unfollowed := true, recurses := true, plainKeys := false, apart := false, narrowed := true }
def HuffPacksUptoSaid : Prop := huffPacksUptoRow.holds Try.pinned (OpenSpec.upto huffPacksSpec)

/-- 'coldframelaw34.HuffUnpacks', WHERE WHAT IT READS IS OF BULK AT MOST 1048576: true; the input reads as it did. -/
def huffUnpacksUptoRow : OpenClaim := { program := "ytipmkddcdnbihaa", sum := "30adda261d3478dd091da1c2cdffc028689a05bcca940a6b11e1c9798b5c3910", func := "coldframe/coldframelaw34.HuffUnpacks", spec := "huffUnpacks", unfollowed := true, recurses := true, plainKeys := false, apart := false, narrowed := true }
def HuffUnpacksUptoSaid : Prop := huffUnpacksUptoRow.holds Try.pinned (OpenSpec.upto huffUnpacksSpec)

/-- 'coldframelaw12.VaultNobody', WHERE WHAT IT READS IS OF BULK AT MOST 1048576: true; the input reads as it did. -/
def vaultNobodyUptoRow : OpenClaim := { program := "ytipmkddcdnbihaa", sum := "30adda261d3478dd091da1c2cdffc028689a05bcca940a6b11e1c9798b5c3910", func := "coldframe/coldframelaw12.VaultNobody", spec := "vaultNobody", unfollowed := true, recurses := true, plainKeys := false, apart := false, narrowed := true }
def VaultNobodyUptoSaid : Prop := vaultNobodyUptoRow.holds Try.pinned (OpenSpec.upto vaultNobodySpec)

/-- 'coldframelaw12.VaultPlays', WHERE WHAT IT READS IS OF BULK AT MOST 1048576: true; the input reads as it did. -/
def vaultPlaysUptoRow : OpenClaim := { program := "ytipmkddcdnbihaa", sum := "30adda261d3478dd091da1c2cdffc028689a05bcca940a6b11e1c9798b5c3910", func := "coldframe/coldframelaw12.VaultPlays", spec := "vaultPlays", unfollowed := true, recurses := true, plainKeys := false, apart := false, narrowed := true }
def VaultPlaysUptoSaid : Prop := vaultPlaysUptoRow.holds Try.pinned (OpenSpec.upto vaultPlaysSpec)

end Rows
end Go.Proofs.Ytipmkddcdnbihaa
