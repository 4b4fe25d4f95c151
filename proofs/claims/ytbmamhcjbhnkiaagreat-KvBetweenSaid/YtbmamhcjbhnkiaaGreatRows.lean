/-
  No cell of these rows narrows 'for every input' (looked for: loops, veiled, ifaces, maps, wideKeys, modest, calm, conditions, laid).
  DERIVED. THE GIVEN ROWS OF THIS SEAT. 3 by the template 'for every input the law returns true; each argument reads behind the call as it read before'; 0 by the template 'total and deterministic' (their statements: YtbmamhcjbhnkiaaGreatTotals.lean).
  GIVEN WITH THE SEED: the statements are not yours to turn. If you find one false, say at which input.
  Laid BY PROGRAM, IN A SANDBOX (cutbox-rows.mjs): the forced cells as the released guide's own fill.sh prints them over the translation 75f65fdc2698aa32… (all of the seat's roots in one cut). By AI agents, Wed Nov 11 2026. No macro, syntax, notation, axiom, sorry.
-/
import Derived.Test.YtbmamhcjbhnkiaaGreatChecked
import GoSem.Claim
import GoSem.ClaimJoined
import GoSem.ClaimMapViews
import Derived.JoinedTies
import Derived.KernelRfl
namespace Go.Proofs.YtbmamhcjbhnkiaaGreat
/- THE CELL 'sum', in the pinned program and in every row, IS THE sha256 OF THE DUMP (.gsa) THAT YtbmamhcjbhnkiaaGreatProg.lean LOADS. Nothing in Lean hashes anything: it is a label: what it is worth is what the hold of that sum in a sandbox is worth. -/
noncomputable def Tryz.pinned : Pinned := { name := "ytbmamhcjbhnkiaagreat", sum := "75f65fdc2698aa32ca0a137e1a7bb50f7d5d90b460099bd8e9b26261fb0b7708", checked := Tryz.checked }
namespace Rows
def none {H : Type} : Left H := { results := [], args := [] }

/-- 'klaxonlaw09.KvPlays': WHATEVER THE INPUT: true; the input reads as it did. -/
def kvPlaysSpec : ChangeSpec := { name := "kvPlays", fn := fun _ => fun
  | [d1, d2] => { results := [.lit (.bool true)], args := [d1, d2] }
  | _ => none }
def kvPlaysRow : OpenClaim := { program := "ytbmamhcjbhnkiaagreat", sum := "75f65fdc2698aa32ca0a137e1a7bb50f7d5d90b460099bd8e9b26261fb0b7708", func := "klaxon/klaxonlaw09.KvPlays", spec := "kvPlays", inPlace := ["maps.clone", "internal/bytealg.abigen_runtime_cmpstring"], unfollowed := true, recurses := true, apart := false }
def KvPlaysSaid : Prop := kvPlaysRow.holds Tryz.pinned (OpenSpec.ofChange kvPlaysSpec)

/-- ITS FALSE NEIGHBOUR: 'it returns false'. Refute it at one input. -/
def kvPlaysWrong : ChangeSpec := { name := "kvPlays", fn := fun _ => fun
  | [d1, d2] => { results := [.lit (.bool false)], args := [d1, d2] }
  | _ => none }
def KvPlaysWrongFalsely : Prop := kvPlaysRow.holds Tryz.pinned (OpenSpec.ofChange kvPlaysWrong)

/-- 'klaxonlaw09.KvBetween': WHATEVER THE INPUT: true; the input reads as it did. -/
def kvBetweenSpec : ChangeSpec := { name := "kvBetween", fn := fun _ => fun
  | [d1, d2, d3, d4] => { results := [.lit (.bool true)], args := [d1, d2, d3, d4] }
  | _ => none }
def kvBetweenRow : OpenClaim := { program := "ytbmamhcjbhnkiaagreat", sum := "75f65fdc2698aa32ca0a137e1a7bb50f7d5d90b460099bd8e9b26261fb0b7708", func := "klaxon/klaxonlaw09.KvBetween", spec := "kvBetween", inPlace := ["maps.clone", "internal/bytealg.abigen_runtime_cmpstring"], unfollowed := true, recurses := true, apart := false }
def KvBetweenSaid : Prop := kvBetweenRow.holds Tryz.pinned (OpenSpec.ofChange kvBetweenSpec)

/-- ITS FALSE NEIGHBOUR: 'it returns false'. Refute it at one input. -/
def kvBetweenWrong : ChangeSpec := { name := "kvBetween", fn := fun _ => fun
  | [d1, d2, d3, d4] => { results := [.lit (.bool false)], args := [d1, d2, d3, d4] }
  | _ => none }
def KvBetweenWrongFalsely : Prop := kvBetweenRow.holds Tryz.pinned (OpenSpec.ofChange kvBetweenWrong)

/-- 'klaxonlaw09.KvStale': WHATEVER THE INPUT: true; the input reads as it did. -/
def kvStaleSpec : ChangeSpec := { name := "kvStale", fn := fun _ => fun
  | [d1, d2] => { results := [.lit (.bool true)], args := [d1, d2] }
  | _ => none }
def kvStaleRow : OpenClaim := { program := "ytbmamhcjbhnkiaagreat", sum := "75f65fdc2698aa32ca0a137e1a7bb50f7d5d90b460099bd8e9b26261fb0b7708", func := "klaxon/klaxonlaw09.KvStale", spec := "kvStale", inPlace := ["maps.clone", "internal/bytealg.abigen_runtime_cmpstring"], unfollowed := true, recurses := true, apart := false }
def KvStaleSaid : Prop := kvStaleRow.holds Tryz.pinned (OpenSpec.ofChange kvStaleSpec)

/-- ITS FALSE NEIGHBOUR: 'it returns false'. Refute it at one input. -/
def kvStaleWrong : ChangeSpec := { name := "kvStale", fn := fun _ => fun
  | [d1, d2] => { results := [.lit (.bool false)], args := [d1, d2] }
  | _ => none }
def KvStaleWrongFalsely : Prop := kvStaleRow.holds Tryz.pinned (OpenSpec.ofChange kvStaleWrong)

/- THE SECOND FORM. 'bulk': how many values and letters a reading holds, each counted each time it is reached (what is shared counts as often as it is met; a slice's spare places count too). A statement '..UptoSaid' is the law's where the arguments, and the package variables that the reading takes, are together of bulk at most 1048576: NARROWER than '..Said'. Prove '..Said' where nothing that the law and all that it calls make is longer than what came in: it says more and counts as full. Else prove '..UptoSaid'. A law counts once. -/
mutual
def uptoBulk {H : Type} : DataW H → Nat
  | .lit (.string bytes) => bytes.length + 1
  | .lit _ => 1
  | .nil => 1
  | .ptr d => uptoBulk d + 1
  | .slice elems spare => uptoBulkAll elems + uptoBulkAll spare + 1
  | .agg parts => uptoBulkAll parts + 1
  | .iface _ d => uptoBulk d + 1
  | .map entries => uptoBulkEntries entries + 1
  | .held _ => 1
def uptoBulkAll {H : Type} : List (DataW H) → Nat
  | [] => 0
  | d :: r => uptoBulk d + uptoBulkAll r
def uptoBulkEntries {H : Type} : List (Lit × DataW H) → Nat
  | [] => 0
  | x :: r => uptoBulkEntry x + uptoBulkEntries r
def uptoBulkEntry {H : Type} : Lit × DataW H → Nat
  | (.string bytes, d) => bytes.length + uptoBulk d + 1
  | (_, d) => uptoBulk d + 1
 end
def uptoSmall : (H : Type) → List (DataW H) → Bool := fun _ ds => decide (uptoBulkAll ds ≤ 1048576)
def OpenSpec.upto (s : _root_.Go.ChangeSpec) : _root_.Go.OpenSpec := { _root_.Go.OpenSpec.ofChange s with cond := some uptoSmall }

/-- 'klaxonlaw09.KvPlays', WHERE WHAT IT READS IS OF BULK AT MOST 1048576: true; the input reads as it did. -/
def kvPlaysUptoRow : OpenClaim := { program := "ytbmamhcjbhnkiaagreat", sum := "75f65fdc2698aa32ca0a137e1a7bb50f7d5d90b460099bd8e9b26261fb0b7708", func := "klaxon/klaxonlaw09.KvPlays", spec := "kvPlays", inPlace := ["maps.clone", "internal/bytealg.abigen_runtime_cmpstring"], unfollowed := true, recurses := true, apart := false, narrowed := true }
def KvPlaysUptoSaid : Prop := kvPlaysUptoRow.holds Tryz.pinned (OpenSpec.upto kvPlaysSpec)

/-- 'klaxonlaw09.KvBetween', WHERE WHAT IT READS IS OF BULK AT MOST 1048576: true; the input reads as it did. -/
def kvBetweenUptoRow : OpenClaim := { program := "ytbmamhcjbhnkiaagreat", sum := "75f65fdc2698aa32ca0a137e1a7bb50f7d5d90b460099bd8e9b26261fb0b7708", func := "klaxon/klaxonlaw09.KvBetween", spec := "kvBetween", inPlace := ["maps.clone", "internal/bytealg.abigen_runtime_cmpstring"], unfollowed := true, recurses := true, apart := false, narrowed := true }
def KvBetweenUptoSaid : Prop := kvBetweenUptoRow.holds Tryz.pinned (OpenSpec.upto kvBetweenSpec)

/-- 'klaxonlaw09.KvStale', WHERE WHAT IT READS IS OF BULK AT MOST 1048576: true; the input reads as it did. -/
def kvStaleUptoRow : OpenClaim := { program := "ytbmamhcjbhnkiaagreat", sum := "75f65fdc2698aa32ca0a137e1a7bb50f7d5d90b460099bd8e9b26261fb0b7708", func := "klaxon/klaxonlaw09.KvStale", spec := "kvStale", inPlace := ["maps.clone", "internal/bytealg.abigen_runtime_cmpstring"], unfollowed := true, recurses := true, apart := false, narrowed := true }
def KvStaleUptoSaid : Prop := kvStaleUptoRow.holds Tryz.pinned (OpenSpec.upto kvStaleSpec)

end Rows
end Go.Proofs.YtbmamhcjbhnkiaaGreat
