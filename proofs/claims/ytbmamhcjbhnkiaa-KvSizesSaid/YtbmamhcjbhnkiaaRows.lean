/-
  No cell of these rows narrows 'for every input' (looked for: loops, veiled, ifaces, maps, wideKeys, modest, calm, conditions, laid).
  DERIVED. THE GIVEN ROWS OF THIS SEAT. 19 by the template 'for every input the law returns true; each argument reads behind the call as it read before'; 0 by the template 'total and deterministic' (their statements: YtbmamhcjbhnkiaaTotals.lean).
  GIVEN WITH THE SEED: the statements are not yours to turn. If you find one false, say at which input.
  Laid BY PROGRAM, IN A SANDBOX (cutbox-rows.mjs): the forced cells as the released guide's own fill.sh prints them over the translation 8549f9764c630fca… (all of the seat's roots in one cut). By AI agents, Wed Nov 11 2026. No macro, syntax, notation, axiom, sorry.
-/
import Derived.Test.YtbmamhcjbhnkiaaChecked
import GoSem.Claim
import GoSem.ClaimJoined
import GoSem.ClaimMapViews
import Derived.JoinedTies
import Derived.KernelRfl
namespace Go.Proofs.Ytbmamhcjbhnkiaa
/- THE CELL 'sum', in the pinned program and in every row, IS THE sha256 OF THE DUMP (.gsa) THAT YtbmamhcjbhnkiaaProg.lean LOADS. Nothing in Lean hashes anything: it is a label: what it is worth is what the hold of that sum in a sandbox is worth. -/
noncomputable def Try.pinned : Pinned := { name := "ytbmamhcjbhnkiaa", sum := "8549f9764c630fca852d8271e04bb643697ddb9a48fb520ae25d1bb11e040742", checked := Try.checked }
namespace Rows
def none {H : Type} : Left H := { results := [], args := [] }

/-- 'klaxonlaw03.CrcSums': WHATEVER THE INPUT: true; the input reads as it did. -/
def crcSumsSpec : ChangeSpec := { name := "crcSums", fn := fun _ => fun
  | [d] => { results := [.lit (.bool true)], args := [d] }
  | _ => none }
def crcSumsRow : OpenClaim := { program := "ytbmamhcjbhnkiaa", sum := "8549f9764c630fca852d8271e04bb643697ddb9a48fb520ae25d1bb11e040742", func := "klaxon/klaxonlaw03.CrcSums", spec := "crcSums", unfollowed := true, recurses := true, apart := false }
def CrcSumsSaid : Prop := crcSumsRow.holds Try.pinned (OpenSpec.ofChange crcSumsSpec)

/-- ITS FALSE NEIGHBOUR: 'it returns false'. Refute it at one input. -/
def crcSumsWrong : ChangeSpec := { name := "crcSums", fn := fun _ => fun
  | [d] => { results := [.lit (.bool false)], args := [d] }
  | _ => none }
def CrcSumsWrongFalsely : Prop := crcSumsRow.holds Try.pinned (OpenSpec.ofChange crcSumsWrong)

/-- 'klaxonlaw03.CrcParts': WHATEVER THE INPUT: true; the input reads as it did. -/
def crcPartsSpec : ChangeSpec := { name := "crcParts", fn := fun _ => fun
  | [d] => { results := [.lit (.bool true)], args := [d] }
  | _ => none }
def crcPartsRow : OpenClaim := { program := "ytbmamhcjbhnkiaa", sum := "8549f9764c630fca852d8271e04bb643697ddb9a48fb520ae25d1bb11e040742", func := "klaxon/klaxonlaw03.CrcParts", spec := "crcParts", unfollowed := true, recurses := true, apart := false }
def CrcPartsSaid : Prop := crcPartsRow.holds Try.pinned (OpenSpec.ofChange crcPartsSpec)

/-- ITS FALSE NEIGHBOUR: 'it returns false'. Refute it at one input. -/
def crcPartsWrong : ChangeSpec := { name := "crcParts", fn := fun _ => fun
  | [d] => { results := [.lit (.bool false)], args := [d] }
  | _ => none }
def CrcPartsWrongFalsely : Prop := crcPartsRow.holds Try.pinned (OpenSpec.ofChange crcPartsWrong)

/-- 'klaxonlaw03.CrcTurns': WHATEVER THE INPUT: true; the input reads as it did. -/
def crcTurnsSpec : ChangeSpec := { name := "crcTurns", fn := fun _ => fun
  | [d1, d2, d3] => { results := [.lit (.bool true)], args := [d1, d2, d3] }
  | _ => none }
def crcTurnsRow : OpenClaim := { program := "ytbmamhcjbhnkiaa", sum := "8549f9764c630fca852d8271e04bb643697ddb9a48fb520ae25d1bb11e040742", func := "klaxon/klaxonlaw03.CrcTurns", spec := "crcTurns", unfollowed := true, recurses := true, apart := false }
def CrcTurnsSaid : Prop := crcTurnsRow.holds Try.pinned (OpenSpec.ofChange crcTurnsSpec)

/-- ITS FALSE NEIGHBOUR: 'it returns false'. Refute it at one input. -/
def crcTurnsWrong : ChangeSpec := { name := "crcTurns", fn := fun _ => fun
  | [d1, d2, d3] => { results := [.lit (.bool false)], args := [d1, d2, d3] }
  | _ => none }
def CrcTurnsWrongFalsely : Prop := crcTurnsRow.holds Try.pinned (OpenSpec.ofChange crcTurnsWrong)

/-- 'klaxonlaw03.CrcXors': WHATEVER THE INPUT: true; the input reads as it did. -/
def crcXorsSpec : ChangeSpec := { name := "crcXors", fn := fun _ => fun
  | [d1, d2, d3] => { results := [.lit (.bool true)], args := [d1, d2, d3] }
  | _ => none }
def crcXorsRow : OpenClaim := { program := "ytbmamhcjbhnkiaa", sum := "8549f9764c630fca852d8271e04bb643697ddb9a48fb520ae25d1bb11e040742", func := "klaxon/klaxonlaw03.CrcXors", spec := "crcXors", unfollowed := true, recurses := true, apart := false }
def CrcXorsSaid : Prop := crcXorsRow.holds Try.pinned (OpenSpec.ofChange crcXorsSpec)

/-- ITS FALSE NEIGHBOUR: 'it returns false'. Refute it at one input. -/
def crcXorsWrong : ChangeSpec := { name := "crcXors", fn := fun _ => fun
  | [d1, d2, d3] => { results := [.lit (.bool false)], args := [d1, d2, d3] }
  | _ => none }
def CrcXorsWrongFalsely : Prop := crcXorsRow.holds Try.pinned (OpenSpec.ofChange crcXorsWrong)

/-- 'klaxonlaw03.CrcPuts': WHATEVER THE INPUT: true; the input reads as it did. -/
def crcPutsSpec : ChangeSpec := { name := "crcPuts", fn := fun _ => fun
  | [d1, d2] => { results := [.lit (.bool true)], args := [d1, d2] }
  | _ => none }
def crcPutsRow : OpenClaim := { program := "ytbmamhcjbhnkiaa", sum := "8549f9764c630fca852d8271e04bb643697ddb9a48fb520ae25d1bb11e040742", func := "klaxon/klaxonlaw03.CrcPuts", spec := "crcPuts", unfollowed := true, recurses := true, apart := false }
def CrcPutsSaid : Prop := crcPutsRow.holds Try.pinned (OpenSpec.ofChange crcPutsSpec)

/-- ITS FALSE NEIGHBOUR: 'it returns false'. Refute it at one input. -/
def crcPutsWrong : ChangeSpec := { name := "crcPuts", fn := fun _ => fun
  | [d1, d2] => { results := [.lit (.bool false)], args := [d1, d2] }
  | _ => none }
def CrcPutsWrongFalsely : Prop := crcPutsRow.holds Try.pinned (OpenSpec.ofChange crcPutsWrong)

/-- 'klaxonlaw07.DiskTorn': WHATEVER THE INPUT: true; the input reads as it did. -/
def diskTornSpec : ChangeSpec := { name := "diskTorn", fn := fun _ => fun
  | [d1, d2, d3] => { results := [.lit (.bool true)], args := [d1, d2, d3] }
  | _ => none }
def diskTornRow : OpenClaim := { program := "ytbmamhcjbhnkiaa", sum := "8549f9764c630fca852d8271e04bb643697ddb9a48fb520ae25d1bb11e040742", func := "klaxon/klaxonlaw07.DiskTorn", spec := "diskTorn", apart := false }
def DiskTornSaid : Prop := diskTornRow.holds Try.pinned (OpenSpec.ofChange diskTornSpec)

/-- ITS FALSE NEIGHBOUR: 'it returns false'. Refute it at one input. -/
def diskTornWrong : ChangeSpec := { name := "diskTorn", fn := fun _ => fun
  | [d1, d2, d3] => { results := [.lit (.bool false)], args := [d1, d2, d3] }
  | _ => none }
def DiskTornWrongFalsely : Prop := diskTornRow.holds Try.pinned (OpenSpec.ofChange diskTornWrong)

/-- 'klaxonlaw07.DiskOrder': WHATEVER THE INPUT: true; the input reads as it did. -/
def diskOrderSpec : ChangeSpec := { name := "diskOrder", fn := fun _ => fun
  | [d1, d2, d3, d4] => { results := [.lit (.bool true)], args := [d1, d2, d3, d4] }
  | _ => none }
def diskOrderRow : OpenClaim := { program := "ytbmamhcjbhnkiaa", sum := "8549f9764c630fca852d8271e04bb643697ddb9a48fb520ae25d1bb11e040742", func := "klaxon/klaxonlaw07.DiskOrder", spec := "diskOrder", apart := false }
def DiskOrderSaid : Prop := diskOrderRow.holds Try.pinned (OpenSpec.ofChange diskOrderSpec)

/-- ITS FALSE NEIGHBOUR: 'it returns false'. Refute it at one input. -/
def diskOrderWrong : ChangeSpec := { name := "diskOrder", fn := fun _ => fun
  | [d1, d2, d3, d4] => { results := [.lit (.bool false)], args := [d1, d2, d3, d4] }
  | _ => none }
def DiskOrderWrongFalsely : Prop := diskOrderRow.holds Try.pinned (OpenSpec.ofChange diskOrderWrong)

/-- 'klaxonlaw07.DiskRanges': WHATEVER THE INPUT: true; the input reads as it did. -/
def diskRangesSpec : ChangeSpec := { name := "diskRanges", fn := fun _ => fun
  | [d1, d2] => { results := [.lit (.bool true)], args := [d1, d2] }
  | _ => none }
def diskRangesRow : OpenClaim := { program := "ytbmamhcjbhnkiaa", sum := "8549f9764c630fca852d8271e04bb643697ddb9a48fb520ae25d1bb11e040742", func := "klaxon/klaxonlaw07.DiskRanges", spec := "diskRanges", apart := false }
def DiskRangesSaid : Prop := diskRangesRow.holds Try.pinned (OpenSpec.ofChange diskRangesSpec)

/-- ITS FALSE NEIGHBOUR: 'it returns false'. Refute it at one input. -/
def diskRangesWrong : ChangeSpec := { name := "diskRanges", fn := fun _ => fun
  | [d1, d2] => { results := [.lit (.bool false)], args := [d1, d2] }
  | _ => none }
def DiskRangesWrongFalsely : Prop := diskRangesRow.holds Try.pinned (OpenSpec.ofChange diskRangesWrong)

/-- 'klaxonlaw07.DiskOwn': WHATEVER THE INPUT: true; the input reads as it did. -/
def diskOwnSpec : ChangeSpec := { name := "diskOwn", fn := fun _ => fun
  | [d1, d2] => { results := [.lit (.bool true)], args := [d1, d2] }
  | _ => none }
def diskOwnRow : OpenClaim := { program := "ytbmamhcjbhnkiaa", sum := "8549f9764c630fca852d8271e04bb643697ddb9a48fb520ae25d1bb11e040742", func := "klaxon/klaxonlaw07.DiskOwn", spec := "diskOwn", apart := false }
def DiskOwnSaid : Prop := diskOwnRow.holds Try.pinned (OpenSpec.ofChange diskOwnSpec)

/-- ITS FALSE NEIGHBOUR: 'it returns false'. Refute it at one input. -/
def diskOwnWrong : ChangeSpec := { name := "diskOwn", fn := fun _ => fun
  | [d1, d2] => { results := [.lit (.bool false)], args := [d1, d2] }
  | _ => none }
def DiskOwnWrongFalsely : Prop := diskOwnRow.holds Try.pinned (OpenSpec.ofChange diskOwnWrong)

/-- 'klaxonlaw07.DiskPlays': WHATEVER THE INPUT: true; the input reads as it did. -/
def diskPlaysSpec : ChangeSpec := { name := "diskPlays", fn := fun _ => fun
  | [d1, d2] => { results := [.lit (.bool true)], args := [d1, d2] }
  | _ => none }
def diskPlaysRow : OpenClaim := { program := "ytbmamhcjbhnkiaa", sum := "8549f9764c630fca852d8271e04bb643697ddb9a48fb520ae25d1bb11e040742", func := "klaxon/klaxonlaw07.DiskPlays", spec := "diskPlays", apart := false }
def DiskPlaysSaid : Prop := diskPlaysRow.holds Try.pinned (OpenSpec.ofChange diskPlaysSpec)

/-- ITS FALSE NEIGHBOUR: 'it returns false'. Refute it at one input. -/
def diskPlaysWrong : ChangeSpec := { name := "diskPlays", fn := fun _ => fun
  | [d1, d2] => { results := [.lit (.bool false)], args := [d1, d2] }
  | _ => none }
def DiskPlaysWrongFalsely : Prop := diskPlaysRow.holds Try.pinned (OpenSpec.ofChange diskPlaysWrong)

/-- 'klaxonlaw07.DiskDiffers': WHATEVER THE INPUT: true; the input reads as it did. -/
def diskDiffersSpec : ChangeSpec := { name := "diskDiffers", fn := fun _ => fun
  | [d1, d2, d3] => { results := [.lit (.bool true)], args := [d1, d2, d3] }
  | _ => none }
def diskDiffersRow : OpenClaim := { program := "ytbmamhcjbhnkiaa", sum := "8549f9764c630fca852d8271e04bb643697ddb9a48fb520ae25d1bb11e040742", func := "klaxon/klaxonlaw07.DiskDiffers", spec := "diskDiffers", apart := false }
def DiskDiffersSaid : Prop := diskDiffersRow.holds Try.pinned (OpenSpec.ofChange diskDiffersSpec)

/-- ITS FALSE NEIGHBOUR: 'it returns false'. Refute it at one input. -/
def diskDiffersWrong : ChangeSpec := { name := "diskDiffers", fn := fun _ => fun
  | [d1, d2, d3] => { results := [.lit (.bool false)], args := [d1, d2, d3] }
  | _ => none }
def DiskDiffersWrongFalsely : Prop := diskDiffersRow.holds Try.pinned (OpenSpec.ofChange diskDiffersWrong)

/-- 'klaxonlaw08.WalTorn': WHATEVER THE INPUT: true; the input reads as it did. -/
def walTornSpec : ChangeSpec := { name := "walTorn", fn := fun _ => fun
  | [d1, d2, d3, d4] => { results := [.lit (.bool true)], args := [d1, d2, d3, d4] }
  | _ => none }
def walTornRow : OpenClaim := { program := "ytbmamhcjbhnkiaa", sum := "8549f9764c630fca852d8271e04bb643697ddb9a48fb520ae25d1bb11e040742", func := "klaxon/klaxonlaw08.WalTorn", spec := "walTorn", unfollowed := true, recurses := true, apart := false }
def WalTornSaid : Prop := walTornRow.holds Try.pinned (OpenSpec.ofChange walTornSpec)

/-- ITS FALSE NEIGHBOUR: 'it returns false'. Refute it at one input. -/
def walTornWrong : ChangeSpec := { name := "walTorn", fn := fun _ => fun
  | [d1, d2, d3, d4] => { results := [.lit (.bool false)], args := [d1, d2, d3, d4] }
  | _ => none }
def WalTornWrongFalsely : Prop := walTornRow.holds Try.pinned (OpenSpec.ofChange walTornWrong)

/-- 'klaxonlaw08.WalOpens': WHATEVER THE INPUT: true; the input reads as it did. -/
def walOpensSpec : ChangeSpec := { name := "walOpens", fn := fun _ => fun
  | [d1, d2, d3] => { results := [.lit (.bool true)], args := [d1, d2, d3] }
  | _ => none }
def walOpensRow : OpenClaim := { program := "ytbmamhcjbhnkiaa", sum := "8549f9764c630fca852d8271e04bb643697ddb9a48fb520ae25d1bb11e040742", func := "klaxon/klaxonlaw08.WalOpens", spec := "walOpens", unfollowed := true, recurses := true, apart := false }
def WalOpensSaid : Prop := walOpensRow.holds Try.pinned (OpenSpec.ofChange walOpensSpec)

/-- ITS FALSE NEIGHBOUR: 'it returns false'. Refute it at one input. -/
def walOpensWrong : ChangeSpec := { name := "walOpens", fn := fun _ => fun
  | [d1, d2, d3] => { results := [.lit (.bool false)], args := [d1, d2, d3] }
  | _ => none }
def WalOpensWrongFalsely : Prop := walOpensRow.holds Try.pinned (OpenSpec.ofChange walOpensWrong)

/-- 'klaxonlaw08.WalForged': WHATEVER THE INPUT: true; the input reads as it did. -/
def walForgedSpec : ChangeSpec := { name := "walForged", fn := fun _ => fun
  | [d1, d2, d3, d4] => { results := [.lit (.bool true)], args := [d1, d2, d3, d4] }
  | _ => none }
def walForgedRow : OpenClaim := { program := "ytbmamhcjbhnkiaa", sum := "8549f9764c630fca852d8271e04bb643697ddb9a48fb520ae25d1bb11e040742", func := "klaxon/klaxonlaw08.WalForged", spec := "walForged", unfollowed := true, recurses := true, apart := false }
def WalForgedSaid : Prop := walForgedRow.holds Try.pinned (OpenSpec.ofChange walForgedSpec)

/-- ITS FALSE NEIGHBOUR: 'it returns false'. Refute it at one input. -/
def walForgedWrong : ChangeSpec := { name := "walForged", fn := fun _ => fun
  | [d1, d2, d3, d4] => { results := [.lit (.bool false)], args := [d1, d2, d3, d4] }
  | _ => none }
def WalForgedWrongFalsely : Prop := walForgedRow.holds Try.pinned (OpenSpec.ofChange walForgedWrong)

/-- 'klaxonlaw08.WalOwn': WHATEVER THE INPUT: true; the input reads as it did. -/
def walOwnSpec : ChangeSpec := { name := "walOwn", fn := fun _ => fun
  | [d1, d2] => { results := [.lit (.bool true)], args := [d1, d2] }
  | _ => none }
def walOwnRow : OpenClaim := { program := "ytbmamhcjbhnkiaa", sum := "8549f9764c630fca852d8271e04bb643697ddb9a48fb520ae25d1bb11e040742", func := "klaxon/klaxonlaw08.WalOwn", spec := "walOwn", unfollowed := true, recurses := true, apart := false }
def WalOwnSaid : Prop := walOwnRow.holds Try.pinned (OpenSpec.ofChange walOwnSpec)

/-- ITS FALSE NEIGHBOUR: 'it returns false'. Refute it at one input. -/
def walOwnWrong : ChangeSpec := { name := "walOwn", fn := fun _ => fun
  | [d1, d2] => { results := [.lit (.bool false)], args := [d1, d2] }
  | _ => none }
def WalOwnWrongFalsely : Prop := walOwnRow.holds Try.pinned (OpenSpec.ofChange walOwnWrong)

/-- 'klaxonlaw08.WalPlays': WHATEVER THE INPUT: true; the input reads as it did. -/
def walPlaysSpec : ChangeSpec := { name := "walPlays", fn := fun _ => fun
  | [d1, d2] => { results := [.lit (.bool true)], args := [d1, d2] }
  | _ => none }
def walPlaysRow : OpenClaim := { program := "ytbmamhcjbhnkiaa", sum := "8549f9764c630fca852d8271e04bb643697ddb9a48fb520ae25d1bb11e040742", func := "klaxon/klaxonlaw08.WalPlays", spec := "walPlays", unfollowed := true, recurses := true, apart := false }
def WalPlaysSaid : Prop := walPlaysRow.holds Try.pinned (OpenSpec.ofChange walPlaysSpec)

/-- ITS FALSE NEIGHBOUR: 'it returns false'. Refute it at one input. -/
def walPlaysWrong : ChangeSpec := { name := "walPlays", fn := fun _ => fun
  | [d1, d2] => { results := [.lit (.bool false)], args := [d1, d2] }
  | _ => none }
def WalPlaysWrongFalsely : Prop := walPlaysRow.holds Try.pinned (OpenSpec.ofChange walPlaysWrong)

/-- 'klaxonlaw09.KvSizes': WHATEVER THE INPUT: true; the input reads as it did. -/
def kvSizesSpec : ChangeSpec := { name := "kvSizes", fn := fun _ => fun
  | [d1, d2, d3] => { results := [.lit (.bool true)], args := [d1, d2, d3] }
  | _ => none }
def kvSizesRow : OpenClaim := { program := "ytbmamhcjbhnkiaa", sum := "8549f9764c630fca852d8271e04bb643697ddb9a48fb520ae25d1bb11e040742", func := "klaxon/klaxonlaw09.KvSizes", spec := "kvSizes", inPlace := ["maps.clone", "internal/bytealg.abigen_runtime_cmpstring"], unfollowed := true, recurses := true, apart := false }
def KvSizesSaid : Prop := kvSizesRow.holds Try.pinned (OpenSpec.ofChange kvSizesSpec)

/-- ITS FALSE NEIGHBOUR: 'it returns false'. Refute it at one input. -/
def kvSizesWrong : ChangeSpec := { name := "kvSizes", fn := fun _ => fun
  | [d1, d2, d3] => { results := [.lit (.bool false)], args := [d1, d2, d3] }
  | _ => none }
def KvSizesWrongFalsely : Prop := kvSizesRow.holds Try.pinned (OpenSpec.ofChange kvSizesWrong)

/-- 'klaxonlaw09.KvScans': WHATEVER THE INPUT: true; the input reads as it did. -/
def kvScansSpec : ChangeSpec := { name := "kvScans", fn := fun _ => fun
  | [d1, d2] => { results := [.lit (.bool true)], args := [d1, d2] }
  | _ => none }
def kvScansRow : OpenClaim := { program := "ytbmamhcjbhnkiaa", sum := "8549f9764c630fca852d8271e04bb643697ddb9a48fb520ae25d1bb11e040742", func := "klaxon/klaxonlaw09.KvScans", spec := "kvScans", inPlace := ["maps.clone", "internal/bytealg.abigen_runtime_cmpstring"], unfollowed := true, recurses := true, apart := false }
def KvScansSaid : Prop := kvScansRow.holds Try.pinned (OpenSpec.ofChange kvScansSpec)

/-- ITS FALSE NEIGHBOUR: 'it returns false'. Refute it at one input. -/
def kvScansWrong : ChangeSpec := { name := "kvScans", fn := fun _ => fun
  | [d1, d2] => { results := [.lit (.bool false)], args := [d1, d2] }
  | _ => none }
def KvScansWrongFalsely : Prop := kvScansRow.holds Try.pinned (OpenSpec.ofChange kvScansWrong)

/-- 'klaxonlaw09.KvOwn': WHATEVER THE INPUT: true; the input reads as it did. -/
def kvOwnSpec : ChangeSpec := { name := "kvOwn", fn := fun _ => fun
  | [d] => { results := [.lit (.bool true)], args := [d] }
  | _ => none }
def kvOwnRow : OpenClaim := { program := "ytbmamhcjbhnkiaa", sum := "8549f9764c630fca852d8271e04bb643697ddb9a48fb520ae25d1bb11e040742", func := "klaxon/klaxonlaw09.KvOwn", spec := "kvOwn", inPlace := ["maps.clone", "internal/bytealg.abigen_runtime_cmpstring"], unfollowed := true, recurses := true, apart := false }
def KvOwnSaid : Prop := kvOwnRow.holds Try.pinned (OpenSpec.ofChange kvOwnSpec)

/-- ITS FALSE NEIGHBOUR: 'it returns false'. Refute it at one input. -/
def kvOwnWrong : ChangeSpec := { name := "kvOwn", fn := fun _ => fun
  | [d] => { results := [.lit (.bool false)], args := [d] }
  | _ => none }
def KvOwnWrongFalsely : Prop := kvOwnRow.holds Try.pinned (OpenSpec.ofChange kvOwnWrong)

/- THE SECOND FORM. 'bulk': how many values and letters a reading holds, each counted each time it is reached (what is shared counts as often as it is met; a slice's spare places count too). A statement '..UptoSaid' is the law's where the arguments, and the package variables that the reading takes, are together of bulk at most 1048576: NARROWER than '..Said'. Prove '..Said' where nothing that the law and all that it calls make is longer than what came in: it says more and counts as full. Else prove '..UptoSaid'. A law counts once. -/
mutual
def uptoBulk {H : Type} : DataW H → Nat
  | .lit (.string bytes) => bytes.length + 1
  | .lit _ => 1
  | .nil => 1
  | .ptr d => uptoBulk d + 1
  | .slice elems spare => uptoBulkAll elems + uptoBulkAll spare + 1
  | .agg parts => uptoBulkAll parts + 1
  | .iface _ d => uptoBulk d + 1
  | .map entries => uptoBulkEntries entries + 1
  | .held _ => 1
def uptoBulkAll {H : Type} : List (DataW H) → Nat
  | [] => 0
  | d :: r => uptoBulk d + uptoBulkAll r
def uptoBulkEntries {H : Type} : List (Lit × DataW H) → Nat
  | [] => 0
  | x :: r => uptoBulkEntry x + uptoBulkEntries r
def uptoBulkEntry {H : Type} : Lit × DataW H → Nat
  | (.string bytes, d) => bytes.length + uptoBulk d + 1
  | (_, d) => uptoBulk d + 1
 end
def uptoSmall : (H : Type) → List (DataW H) → Bool := fun _ ds => decide (uptoBulkAll ds ≤ 1048576)
def OpenSpec.upto (s : _root_.Go.ChangeSpec) : _root_.Go.OpenSpec := { _root_.Go.OpenSpec.ofChange s with cond := some uptoSmall }

/-- 'klaxonlaw03.CrcSums', WHERE WHAT IT READS IS OF BULK AT MOST 1048576: true; the input reads as it did. -/
def crcSumsUptoRow : OpenClaim := { program := "ytbmamhcjbhnkiaa", sum := "8549f9764c630fca852d8271e04bb643697ddb9a48fb520ae25d1bb11e040742", func := "klaxon/klaxonlaw03.CrcSums", spec := "crcSums", unfollowed := true, recurses := true, apart := false, narrowed := true }
def CrcSumsUptoSaid : Prop := crcSumsUptoRow.holds Try.pinned (OpenSpec.upto crcSumsSpec)

/-- 'klaxonlaw03.CrcParts', WHERE WHAT IT READS IS OF BULK AT MOST 1048576: true; the input reads as it did. -/
def crcPartsUptoRow : OpenClaim := { program := "ytbmamhcjbhnkiaa", sum := "8549f9764c630fca852d8271e04bb643697ddb9a48fb520ae25d1bb11e040742", func := "klaxon/klaxonlaw03.CrcParts", spec := "crcParts", unfollowed := true, recurses := true, apart := false, narrowed := true }
def CrcPartsUptoSaid : Prop := crcPartsUptoRow.holds Try.pinned (OpenSpec.upto crcPartsSpec)

/-- 'klaxonlaw03.CrcTurns', WHERE WHAT IT READS IS OF BULK AT MOST 1048576: true; the input reads as it did. -/
def crcTurnsUptoRow : OpenClaim := { program := "ytbmamhcjbhnkiaa", sum := "8549f9764c630fca852d8271e04bb643697ddb9a48fb520ae25d1bb11e040742", func := "klaxon/klaxonlaw03.CrcTurns", spec := "crcTurns", unfollowed := true, recurses := true, apart := false, narrowed := true }
def CrcTurnsUptoSaid : Prop := crcTurnsUptoRow.holds Try.pinned (OpenSpec.upto crcTurnsSpec)

/-- 'klaxonlaw03.CrcXors', WHERE WHAT IT READS IS OF BULK AT MOST 1048576: true; the input reads as it did. -/
def crcXorsUptoRow : OpenClaim := { program := "ytbmamhcjbhnkiaa", sum := "8549f9764c630fca852d8271e04bb643697ddb9a48fb520ae25d1bb11e040742", func := "klaxon/klaxonlaw03.CrcXors", spec := "crcXors", unfollowed := true, recurses := true, apart := false, narrowed := true }
def CrcXorsUptoSaid : Prop := crcXorsUptoRow.holds Try.pinned (OpenSpec.upto crcXorsSpec)

/-- 'klaxonlaw03.CrcPuts', WHERE WHAT IT READS IS OF BULK AT MOST 1048576: true; the input reads as it did. -/
def crcPutsUptoRow : OpenClaim := { program := "ytbmamhcjbhnkiaa", sum := "8549f9764c630fca852d8271e04bb643697ddb9a48fb520ae25d1bb11e040742", func := "klaxon/klaxonlaw03.CrcPuts", spec := "crcPuts", unfollowed := true, recurses := true, apart := false, narrowed := true }
def CrcPutsUptoSaid : Prop := crcPutsUptoRow.holds Try.pinned (OpenSpec.upto crcPutsSpec)

/-- 'klaxonlaw07.DiskTorn', WHERE WHAT IT READS IS OF BULK AT MOST 1048576: true; the input reads as it did. -/
def diskTornUptoRow : OpenClaim := { program := "ytbmamhcjbhnkiaa", sum := "8549f9764c630fca852d8271e04bb643697ddb9a48fb520ae25d1bb11e040742", func := "klaxon/klaxonlaw07.DiskTorn", spec := "diskTorn", apart := false, narrowed := true }
def DiskTornUptoSaid : Prop := diskTornUptoRow.holds Try.pinned (OpenSpec.upto diskTornSpec)

/-- 'klaxonlaw07.DiskOrder', WHERE WHAT IT READS IS OF BULK AT MOST 1048576: true; the input reads as it did. -/
def diskOrderUptoRow : OpenClaim := { program := "ytbmamhcjbhnkiaa", sum := "8549f9764c630fca852d8271e04bb643697ddb9a48fb520ae25d1bb11e040742", func := "klaxon/klaxonlaw07.DiskOrder", spec := "diskOrder", apart := false, narrowed := true }
def DiskOrderUptoSaid : Prop := diskOrderUptoRow.holds Try.pinned (OpenSpec.upto diskOrderSpec)

/-- 'klaxonlaw07.DiskRanges', WHERE WHAT IT READS IS OF BULK AT MOST 1048576: true; the input reads as it did. -/
def diskRangesUptoRow : OpenClaim := { program := "ytbmamhcjbhnkiaa", sum := "8549f9764c630fca852d8271e04bb643697ddb9a48fb520ae25d1bb11e040742", func := "klaxon/klaxonlaw07.DiskRanges", spec := "diskRanges", apart := false, narrowed := true }
def DiskRangesUptoSaid : Prop := diskRangesUptoRow.holds Try.pinned (OpenSpec.upto diskRangesSpec)

/-- 'klaxonlaw07.DiskOwn', WHERE WHAT IT READS IS OF BULK AT MOST 1048576: true; the input reads as it did. -/
def diskOwnUptoRow : OpenClaim := { program := "ytbmamhcjbhnkiaa", sum := "8549f9764c630fca852d8271e04bb643697ddb9a48fb520ae25d1bb11e040742", func := "klaxon/klaxonlaw07.DiskOwn", spec := "diskOwn", apart := false, narrowed := true }
def DiskOwnUptoSaid : Prop := diskOwnUptoRow.holds Try.pinned (OpenSpec.upto diskOwnSpec)

/-- 'klaxonlaw07.DiskPlays', WHERE WHAT IT READS IS OF BULK AT MOST 1048576: true; the input reads as it did. -/
def diskPlaysUptoRow : OpenClaim := { program := "ytbmamhcjbhnkiaa", sum := "8549f9764c630fca852d8271e04bb643697ddb9a48fb520ae25d1bb11e040742", func := "klaxon/klaxonlaw07.DiskPlays", spec := "diskPlays", apart := false, narrowed := true }
def DiskPlaysUptoSaid : Prop := diskPlaysUptoRow.holds Try.pinned (OpenSpec.upto diskPlaysSpec)

/-- 'klaxonlaw07.DiskDiffers', WHERE WHAT IT READS IS OF BULK AT MOST 1048576: true; the input reads as it did. -/
def diskDiffersUptoRow : OpenClaim := { program := "ytbmamhcjbhnkiaa", sum := "8549f9764c630fca852d8271e04bb643697ddb9a48fb520ae25d1bb11e040742", func := "klaxon/klaxonlaw07.DiskDiffers", spec := "diskDiffers", apart := false, narrowed := true }
def DiskDiffersUptoSaid : Prop := diskDiffersUptoRow.holds Try.pinned (OpenSpec.upto diskDiffersSpec)

/-- 'klaxonlaw08.WalTorn', WHERE WHAT IT READS IS OF BULK AT MOST 1048576: true; the input reads as it did. -/
def walTornUptoRow : OpenClaim := { program := "ytbmamhcjbhnkiaa", sum := "8549f9764c630fca852d8271e04bb643697ddb9a48fb520ae25d1bb11e040742", func := "klaxon/klaxonlaw08.WalTorn", spec := "walTorn", unfollowed := true, recurses := true, apart := false, narrowed := true }
def WalTornUptoSaid : Prop := walTornUptoRow.holds Try.pinned (OpenSpec.upto walTornSpec)

/-- 'klaxonlaw08.WalOpens', WHERE WHAT IT READS IS OF BULK AT MOST 1048576: true; the input reads as it did. -/
def walOpensUptoRow : OpenClaim := { program := "ytbmamhcjbhnkiaa", sum := "8549f9764c630fca852d8271e04bb643697ddb9a48fb520ae25d1bb11e040742", func := "klaxon/klaxonlaw08.WalOpens", spec := "walOpens", unfollowed := true, recurses := true, apart := false, narrowed := true }
def WalOpensUptoSaid : Prop := walOpensUptoRow.holds Try.pinned (OpenSpec.upto walOpensSpec)

/-- 'klaxonlaw08.WalForged', WHERE WHAT IT READS IS OF BULK AT MOST 1048576: true; the input reads as it did. -/
def walForgedUptoRow : OpenClaim := { program := "ytbmamhcjbhnkiaa", sum := "8549f9764c630fca852d8271e04bb643697ddb9a48fb520ae25d1bb11e040742", func := "klaxon/klaxonlaw08.WalForged", spec := "walForged", unfollowed := true, recurses := true, apart := false, narrowed := true }
def WalForgedUptoSaid : Prop := walForgedUptoRow.holds Try.pinned (OpenSpec.upto walForgedSpec)

/-- 'klaxonlaw08.WalOwn', WHERE WHAT IT READS IS OF BULK AT MOST 1048576: true; the input reads as it did. -/
def walOwnUptoRow : OpenClaim := { program := "ytbmamhcjbhnkiaa", sum := "8549f9764c630fca852d8271e04bb643697ddb9a48fb520ae25d1bb11e040742", func := "klaxon/klaxonlaw08.WalOwn", spec := "walOwn", unfollowed := true, recurses := true, apart := false, narrowed := true }
def WalOwnUptoSaid : Prop := walOwnUptoRow.holds Try.pinned (OpenSpec.upto walOwnSpec)

/-- 'klaxonlaw08.WalPlays', WHERE WHAT IT READS IS OF BULK AT MOST 1048576: true; the input reads as it did. -/
def walPlaysUptoRow : OpenClaim := { program := "ytbmamhcjbhnkiaa", sum := "8549f9764c630fca852d8271e04bb643697ddb9a48fb520ae25d1bb11e040742", func := "klaxon/klaxonlaw08.WalPlays", spec := "walPlays", unfollowed := true, recurses := true, apart := false, narrowed := true }
def WalPlaysUptoSaid : Prop := walPlaysUptoRow.holds Try.pinned (OpenSpec.upto walPlaysSpec)

/-- 'klaxonlaw09.KvSizes', WHERE WHAT IT READS IS OF BULK AT MOST 1048576: true; the input reads as it did. -/
def kvSizesUptoRow : OpenClaim := { program := "ytbmamhcjbhnkiaa", sum := "8549f9764c630fca852d8271e04bb643697ddb9a48fb520ae25d1bb11e040742", func := "klaxon/klaxonlaw09.KvSizes", spec := "kvSizes", inPlace := ["maps.clone", "internal/bytealg.abigen_runtime_cmpstring"], unfollowed := true, recurses := true, apart := false, narrowed := true }
def KvSizesUptoSaid : Prop := kvSizesUptoRow.holds Try.pinned (OpenSpec.upto kvSizesSpec)

/-- 'klaxonlaw09.KvScans', WHERE WHAT IT READS IS OF BULK AT MOST 1048576: true; the input reads as it did. -/
def kvScansUptoRow : OpenClaim := { program := "ytbmamhcjbhnkiaa", sum := "8549f9764c630fca852d8271e04bb643697ddb9a48fb520ae25d1bb11e040742", func := "klaxon/klaxonlaw09.KvScans", spec := "kvScans", inPlace := ["maps.clone", "internal/bytealg.abigen_runtime_cmpstring"], unfollowed := true, recurses := true, apart := false, narrowed := true }
def KvScansUptoSaid : Prop := kvScansUptoRow.holds Try.pinned (OpenSpec.upto kvScansSpec)

/-- 'klaxonlaw09.KvOwn', WHERE WHAT IT READS IS OF BULK AT MOST 1048576: true; the input reads as it did. -/
def kvOwnUptoRow : OpenClaim := { program := "ytbmamhcjbhnkiaa", sum := "8549f9764c630fca852d8271e04bb643697ddb9a48fb520ae25d1bb11e040742", func := "klaxon/klaxonlaw09.KvOwn", spec := "kvOwn", inPlace := ["maps.clone", "internal/bytealg.abigen_runtime_cmpstring"], unfollowed := true, recurses := true, apart := false, narrowed := true }
def KvOwnUptoSaid : Prop := kvOwnUptoRow.holds Try.pinned (OpenSpec.upto kvOwnSpec)

end Rows
end Go.Proofs.Ytbmamhcjbhnkiaa
