/-
  No cell of these rows narrows 'for every input' (looked for: loops, veiled, ifaces, maps, wideKeys, modest, calm, conditions, laid).
  DERIVED. THE GIVEN ROWS OF THIS SEAT. 4 by the template 'for every input the law returns true; each argument reads behind the call as it read before'; 0 by the template 'total and deterministic' (their statements: YtepdjffnjfdklaaTotals.lean).
  GIVEN WITH THE SEED: the statements are not yours to turn. If you find one false, say at which input.
  Laid BY PROGRAM, IN A SANDBOX (cutbox-rows.mjs): the forced cells as the released guide's own fill.sh prints them over the translation 7104658df7f546d0… (all of the seat's roots in one cut). By AI agents, Wed Nov 11 2026. No macro, syntax, notation, axiom, sorry.
-/
import Derived.Test.YtepdjffnjfdklaaChecked
import GoSem.Claim
import GoSem.ClaimJoined
import GoSem.ClaimMapViews
import Derived.JoinedTies
import Derived.KernelRfl
namespace Go.Proofs.Ytepdjffnjfdklaa
/- THE CELL 'sum', in the pinned program and in every row, IS THE sha256 OF THE DUMP (.gsa) THAT YtepdjffnjfdklaaProg.lean LOADS. Nothing in Lean hashes anything: it is a label: what it is worth is what the hold of that sum in a sandbox is worth. -/
noncomputable def Try.pinned : Pinned := { name := "ytepdjffnjfdklaa", sum := "7104658df7f546d0e335592ff3747ecb1f729658330c34a87d43dda79340f835", checked := Try.checked }
namespace Rows
def none {H : Type} : Left H := { results := [], args := [] }

/-- 'overdublaw11.MapLevels': WHATEVER THE INPUT: true; the input reads as it did. -/
def mapLevelsSpec : ChangeSpec := { name := "mapLevels", fn := fun _ => fun
  | [d1, d2, d3] => { results := [.lit (.bool true)], args := [d1, d2, d3] }
  | _ => none }
def mapLevelsRow : OpenClaim := { program := "ytepdjffnjfdklaa", sum := "7104658df7f546d0e335592ff3747ecb1f729658330c34a87d43dda79340f835", func := "overdub/overdublaw11.MapLevels", spec := "mapLevels", apart := false }
def MapLevelsSaid : Prop := mapLevelsRow.holds Try.pinned (OpenSpec.ofChange mapLevelsSpec)

/-- ITS FALSE NEIGHBOUR: 'it returns false'. Refute it at one input. -/
def mapLevelsWrong : ChangeSpec := { name := "mapLevels", fn := fun _ => fun
  | [d1, d2, d3] => { results := [.lit (.bool false)], args := [d1, d2, d3] }
  | _ => none }
def MapLevelsWrongFalsely : Prop := mapLevelsRow.holds Try.pinned (OpenSpec.ofChange mapLevelsWrong)

/-- 'overdublaw11.MapFills': WHATEVER THE INPUT: true; the input reads as it did. -/
def mapFillsSpec : ChangeSpec := { name := "mapFills", fn := fun _ => fun
  | [d1, d2] => { results := [.lit (.bool true)], args := [d1, d2] }
  | _ => none }
def mapFillsRow : OpenClaim := { program := "ytepdjffnjfdklaa", sum := "7104658df7f546d0e335592ff3747ecb1f729658330c34a87d43dda79340f835", func := "overdub/overdublaw11.MapFills", spec := "mapFills", apart := false }
def MapFillsSaid : Prop := mapFillsRow.holds Try.pinned (OpenSpec.ofChange mapFillsSpec)

/-- ITS FALSE NEIGHBOUR: 'it returns false'. Refute it at one input. -/
def mapFillsWrong : ChangeSpec := { name := "mapFills", fn := fun _ => fun
  | [d1, d2] => { results := [.lit (.bool false)], args := [d1, d2] }
  | _ => none }
def MapFillsWrongFalsely : Prop := mapFillsRow.holds Try.pinned (OpenSpec.ofChange mapFillsWrong)

/-- 'overdublaw11.MapRuns': WHATEVER THE INPUT: true; the input reads as it did. -/
def mapRunsSpec : ChangeSpec := { name := "mapRuns", fn := fun _ => fun
  | [d1, d2, d3] => { results := [.lit (.bool true)], args := [d1, d2, d3] }
  | _ => none }
def mapRunsRow : OpenClaim := { program := "ytepdjffnjfdklaa", sum := "7104658df7f546d0e335592ff3747ecb1f729658330c34a87d43dda79340f835", func := "overdub/overdublaw11.MapRuns", spec := "mapRuns", apart := false }
def MapRunsSaid : Prop := mapRunsRow.holds Try.pinned (OpenSpec.ofChange mapRunsSpec)

/-- ITS FALSE NEIGHBOUR: 'it returns false'. Refute it at one input. -/
def mapRunsWrong : ChangeSpec := { name := "mapRuns", fn := fun _ => fun
  | [d1, d2, d3] => { results := [.lit (.bool false)], args := [d1, d2, d3] }
  | _ => none }
def MapRunsWrongFalsely : Prop := mapRunsRow.holds Try.pinned (OpenSpec.ofChange mapRunsWrong)

/-- 'overdublaw11.MapPlays': WHATEVER THE INPUT: true; the input reads as it did. -/
def mapPlaysSpec : ChangeSpec := { name := "mapPlays", fn := fun _ => fun
  | [d1, d2, d3] => { results := [.lit (.bool true)], args := [d1, d2, d3] }
  | _ => none }
def mapPlaysRow : OpenClaim := { program := "ytepdjffnjfdklaa", sum := "7104658df7f546d0e335592ff3747ecb1f729658330c34a87d43dda79340f835", func := "overdub/overdublaw11.MapPlays", spec := "mapPlays", apart := false }
def MapPlaysSaid : Prop := mapPlaysRow.holds Try.pinned (OpenSpec.ofChange mapPlaysSpec)

/-- ITS FALSE NEIGHBOUR: 'it returns false'. Refute it at one input. -/
def mapPlaysWrong : ChangeSpec := { name := "mapPlays", fn := fun _ => fun
  | [d1, d2, d3] => { results := [.lit (.bool false)], args := [d1, d2, d3] }
  | _ => none }
def MapPlaysWrongFalsely : Prop := mapPlaysRow.holds Try.pinned (OpenSpec.ofChange mapPlaysWrong)

/- THE SECOND FORM. 'bulk': how many values and letters a reading holds, each counted each time it is reached (what is shared counts as often as it is met; a slice's spare places count too). A statement '..UptoSaid' is the law's where the arguments, and the package variables that the reading takes, are together of bulk at most 1048576: NARROWER than '..Said'. Prove '..Said' where nothing that the law and all that it calls make is longer than what came in: it says more and counts as full. Else prove '..UptoSaid'. A law counts once. -/
mutual
def uptoBulk {H : Type} : DataW H → Nat
  | .lit (.string bytes) => bytes.length + 1
  | .lit _ => 1
  | .nil => 1
  | .ptr d => uptoBulk d + 1
  | .slice elems spare => uptoBulkAll elems + uptoBulkAll spare + 1
  | .agg parts => uptoBulkAll parts + 1
  | .iface _ d => uptoBulk d + 1
  | .map entries => uptoBulkEntries entries + 1
  | .held _ => 1
def uptoBulkAll {H : Type} : List (DataW H) → Nat
  | [] => 0
  | d :: r => uptoBulk d + uptoBulkAll r
def uptoBulkEntries {H : Type} : List (Lit × DataW H) → Nat
  | [] => 0
  | x :: r => uptoBulkEntry x + uptoBulkEntries r
def uptoBulkEntry {H : Type} : Lit × DataW H → Nat
  | (.string bytes, d) => bytes.length + uptoBulk d + 1
  | (_, d) => uptoBulk d + 1
 end
def uptoSmall : (H : Type) → List (DataW H) → Bool := fun _ ds => decide (uptoBulkAll ds ≤ 1048576)
def OpenSpec.upto (s : _root_.Go.ChangeSpec) : _root_.Go.OpenSpec := { _root_.Go.OpenSpec.ofChange s with cond := some uptoSmall }

/-- 'overdublaw11.MapLevels', WHERE WHAT IT READS IS OF BULK AT MOST 1048576: true; the input reads as it did. -/
def mapLevelsUptoRow : OpenClaim := { program := "ytepdjffnjfdklaa", sum := "7104658df7f546d0e335592ff3747ecb1f729658330c34a87d43dda79340f835", func := "overdub/overdublaw11.MapLevels", spec := "mapLevels", apart := false, narrowed := true }
def MapLevelsUptoSaid : Prop := mapLevelsUptoRow.holds Try.pinned (OpenSpec.upto mapLevelsSpec)

/-- 'overdublaw11.MapFills', WHERE WHAT IT READS IS OF BULK AT MOST 1048576: true; the input reads as it did. -/
def mapFillsUptoRow : OpenClaim := { program := "ytepdjffnjfdklaa", sum := "7104658df7f546d0e335592ff3747ecb1f729658330c34a87d43dda79340f835", func := "overdub/overdublaw11.MapFills", spec := "mapFills", apart := false, narrowed := true }
def MapFillsUptoSaid : Prop := mapFillsUptoRow.holds Try.pinned (OpenSpec.upto mapFillsSpec)

/-- 'overdublaw11.MapRuns', WHERE WHAT IT READS IS OF BULK AT MOST 1048576: true; the input reads as it did. -/
def mapRunsUptoRow : OpenClaim := { program := "ytepdjffnjfdklaa", sum := "7104658df7f546d0e335592ff3747ecb1f729658330c34a87d43dda79340f835", func := "overdub/overdublaw11.MapRuns", spec := "mapRuns", apart := false, narrowed := true }
def MapRunsUptoSaid : Prop := mapRunsUptoRow.holds Try.pinned (OpenSpec.upto mapRunsSpec)

/-- 'overdublaw11.MapPlays', WHERE WHAT IT READS IS OF BULK AT MOST 1048576: true; the input reads as it did. -/
def mapPlaysUptoRow : OpenClaim := { program := "ytepdjffnjfdklaa", sum := "7104658df7f546d0e335592ff3747ecb1f729658330c34a87d43dda79340f835", func := "overdub/overdublaw11.MapPlays", spec := "mapPlays", apart := false, narrowed := true }
def MapPlaysUptoSaid : Prop := mapPlaysUptoRow.holds Try.pinned (OpenSpec.upto mapPlaysSpec)

end Rows
end Go.Proofs.Ytepdjffnjfdklaa
