/-
  No cell of these rows narrows 'for every input' (looked for: loops, veiled, ifaces, maps, wideKeys, modest, calm, conditions, laid).
  DERIVED. THE GIVEN ROWS OF THIS SEAT. 7 by the template 'for every input the law returns true; each argument reads behind the call as it read before'; 0 by the template 'total and deterministic' (their statements: YtpdleoehllhbkaaTotals.lean).
  GIVEN WITH THE SEED: the statements are not yours to turn. If you find one false, say at which input.
  Laid BY PROGRAM, IN A SANDBOX (cutbox-rows.mjs): the forced cells as the released guide's own fill.sh prints them over the translation 9e06aa8cdf47a3d1… (all of the seat's roots in one cut). By AI agents, Wed Nov 11 2026. No macro, syntax, notation, axiom, sorry.
-/
import Derived.Test.YtpdleoehllhbkaaChecked
import GoSem.Claim
import GoSem.ClaimJoined
import GoSem.ClaimMapViews
import Derived.JoinedTies
import Derived.KernelRfl
namespace Go.Proofs.Ytpdleoehllhbkaa
/- THE CELL 'sum', in the pinned program and in every row, IS THE sha256 OF THE DUMP (.gsa) THAT YtpdleoehllhbkaaProg.lean LOADS. Nothing in Lean hashes anything: it is a label: what it is worth is what the hold of that sum in a sandbox is worth. -/
noncomputable def Try.pinned : Pinned := { name := "ytpdleoehllhbkaa", sum := "9e06aa8cdf47a3d116dfd20875fb3144c80f3211ae19d48950e6fce961d3b11c", checked := Try.checked }
namespace Rows
def none {H : Type} : Left H := { results := [], args := [] }

/-- 'overdublaw02.RiceRises': WHATEVER THE INPUT: true; the input reads as it did. -/
def riceRisesSpec : ChangeSpec := { name := "riceRises", fn := fun _ => fun
  | [d1, d2, d3] => { results := [.lit (.bool true)], args := [d1, d2, d3] }
  | _ => none }
def riceRisesRow : OpenClaim := { program := "ytpdleoehllhbkaa", sum := "9e06aa8cdf47a3d116dfd20875fb3144c80f3211ae19d48950e6fce961d3b11c", func := "overdub/overdublaw02.RiceRises", spec := "riceRises", apart := false }
def RiceRisesSaid : Prop := riceRisesRow.holds Try.pinned (OpenSpec.ofChange riceRisesSpec)

/-- ITS FALSE NEIGHBOUR: 'it returns false'. Refute it at one input. -/
def riceRisesWrong : ChangeSpec := { name := "riceRises", fn := fun _ => fun
  | [d1, d2, d3] => { results := [.lit (.bool false)], args := [d1, d2, d3] }
  | _ => none }
def RiceRisesWrongFalsely : Prop := riceRisesRow.holds Try.pinned (OpenSpec.ofChange riceRisesWrong)

/-- 'overdublaw02.RiceZigs': WHATEVER THE INPUT: true; the input reads as it did. -/
def riceZigsSpec : ChangeSpec := { name := "riceZigs", fn := fun _ => fun
  | [d] => { results := [.lit (.bool true)], args := [d] }
  | _ => none }
def riceZigsRow : OpenClaim := { program := "ytpdleoehllhbkaa", sum := "9e06aa8cdf47a3d116dfd20875fb3144c80f3211ae19d48950e6fce961d3b11c", func := "overdub/overdublaw02.RiceZigs", spec := "riceZigs", apart := false }
def RiceZigsSaid : Prop := riceZigsRow.holds Try.pinned (OpenSpec.ofChange riceZigsSpec)

/-- ITS FALSE NEIGHBOUR: 'it returns false'. Refute it at one input. -/
def riceZigsWrong : ChangeSpec := { name := "riceZigs", fn := fun _ => fun
  | [d] => { results := [.lit (.bool false)], args := [d] }
  | _ => none }
def RiceZigsWrongFalsely : Prop := riceZigsRow.holds Try.pinned (OpenSpec.ofChange riceZigsWrong)

/-- 'overdublaw02.RiceParams': WHATEVER THE INPUT: true; the input reads as it did. -/
def riceParamsSpec : ChangeSpec := { name := "riceParams", fn := fun _ => fun
  | [d] => { results := [.lit (.bool true)], args := [d] }
  | _ => none }
def riceParamsRow : OpenClaim := { program := "ytpdleoehllhbkaa", sum := "9e06aa8cdf47a3d116dfd20875fb3144c80f3211ae19d48950e6fce961d3b11c", func := "overdub/overdublaw02.RiceParams", spec := "riceParams", apart := false }
def RiceParamsSaid : Prop := riceParamsRow.holds Try.pinned (OpenSpec.ofChange riceParamsSpec)

/-- ITS FALSE NEIGHBOUR: 'it returns false'. Refute it at one input. -/
def riceParamsWrong : ChangeSpec := { name := "riceParams", fn := fun _ => fun
  | [d] => { results := [.lit (.bool false)], args := [d] }
  | _ => none }
def RiceParamsWrongFalsely : Prop := riceParamsRow.holds Try.pinned (OpenSpec.ofChange riceParamsWrong)

/-- 'overdublaw02.RiceSizes': WHATEVER THE INPUT: true; the input reads as it did. -/
def riceSizesSpec : ChangeSpec := { name := "riceSizes", fn := fun _ => fun
  | [d1, d2, d3] => { results := [.lit (.bool true)], args := [d1, d2, d3] }
  | _ => none }
def riceSizesRow : OpenClaim := { program := "ytpdleoehllhbkaa", sum := "9e06aa8cdf47a3d116dfd20875fb3144c80f3211ae19d48950e6fce961d3b11c", func := "overdub/overdublaw02.RiceSizes", spec := "riceSizes", apart := false }
def RiceSizesSaid : Prop := riceSizesRow.holds Try.pinned (OpenSpec.ofChange riceSizesSpec)

/-- ITS FALSE NEIGHBOUR: 'it returns false'. Refute it at one input. -/
def riceSizesWrong : ChangeSpec := { name := "riceSizes", fn := fun _ => fun
  | [d1, d2, d3] => { results := [.lit (.bool false)], args := [d1, d2, d3] }
  | _ => none }
def RiceSizesWrongFalsely : Prop := riceSizesRow.holds Try.pinned (OpenSpec.ofChange riceSizesWrong)

/-- 'overdublaw02.RicePuts': WHATEVER THE INPUT: true; the input reads as it did. -/
def ricePutsSpec : ChangeSpec := { name := "ricePuts", fn := fun _ => fun
  | [d1, d2] => { results := [.lit (.bool true)], args := [d1, d2] }
  | _ => none }
def ricePutsRow : OpenClaim := { program := "ytpdleoehllhbkaa", sum := "9e06aa8cdf47a3d116dfd20875fb3144c80f3211ae19d48950e6fce961d3b11c", func := "overdub/overdublaw02.RicePuts", spec := "ricePuts", apart := false }
def RicePutsSaid : Prop := ricePutsRow.holds Try.pinned (OpenSpec.ofChange ricePutsSpec)

/-- ITS FALSE NEIGHBOUR: 'it returns false'. Refute it at one input. -/
def ricePutsWrong : ChangeSpec := { name := "ricePuts", fn := fun _ => fun
  | [d1, d2] => { results := [.lit (.bool false)], args := [d1, d2] }
  | _ => none }
def RicePutsWrongFalsely : Prop := ricePutsRow.holds Try.pinned (OpenSpec.ofChange ricePutsWrong)

/-- 'overdublaw02.RiceGets': WHATEVER THE INPUT: true; the input reads as it did. -/
def riceGetsSpec : ChangeSpec := { name := "riceGets", fn := fun _ => fun
  | [d1, d2] => { results := [.lit (.bool true)], args := [d1, d2] }
  | _ => none }
def riceGetsRow : OpenClaim := { program := "ytpdleoehllhbkaa", sum := "9e06aa8cdf47a3d116dfd20875fb3144c80f3211ae19d48950e6fce961d3b11c", func := "overdub/overdublaw02.RiceGets", spec := "riceGets", apart := false }
def RiceGetsSaid : Prop := riceGetsRow.holds Try.pinned (OpenSpec.ofChange riceGetsSpec)

/-- ITS FALSE NEIGHBOUR: 'it returns false'. Refute it at one input. -/
def riceGetsWrong : ChangeSpec := { name := "riceGets", fn := fun _ => fun
  | [d1, d2] => { results := [.lit (.bool false)], args := [d1, d2] }
  | _ => none }
def RiceGetsWrongFalsely : Prop := riceGetsRow.holds Try.pinned (OpenSpec.ofChange riceGetsWrong)

/-- 'overdublaw02.RiceBack': WHATEVER THE INPUT: true; the input reads as it did. -/
def riceBackSpec : ChangeSpec := { name := "riceBack", fn := fun _ => fun
  | [d1, d2] => { results := [.lit (.bool true)], args := [d1, d2] }
  | _ => none }
def riceBackRow : OpenClaim := { program := "ytpdleoehllhbkaa", sum := "9e06aa8cdf47a3d116dfd20875fb3144c80f3211ae19d48950e6fce961d3b11c", func := "overdub/overdublaw02.RiceBack", spec := "riceBack", apart := false }
def RiceBackSaid : Prop := riceBackRow.holds Try.pinned (OpenSpec.ofChange riceBackSpec)

/-- ITS FALSE NEIGHBOUR: 'it returns false'. Refute it at one input. -/
def riceBackWrong : ChangeSpec := { name := "riceBack", fn := fun _ => fun
  | [d1, d2] => { results := [.lit (.bool false)], args := [d1, d2] }
  | _ => none }
def RiceBackWrongFalsely : Prop := riceBackRow.holds Try.pinned (OpenSpec.ofChange riceBackWrong)

/- THE SECOND FORM. 'bulk': how many values and letters a reading holds, each counted each time it is reached (what is shared counts as often as it is met; a slice's spare places count too). A statement '..UptoSaid' is the law's where the arguments, and the package variables that the reading takes, are together of bulk at most 1048576: NARROWER than '..Said'. Prove '..Said' where nothing that the law and all that it calls make is longer than what came in: it says more and counts as full. Else prove '..UptoSaid'. A law counts once. -/
mutual
def uptoBulk {H : Type} : DataW H → Nat
  | .lit (.string bytes) => bytes.length + 1
  | .lit _ => 1
  | .nil => 1
  | .ptr d => uptoBulk d + 1
  | .slice elems spare => uptoBulkAll elems + uptoBulkAll spare + 1
  | .agg parts => uptoBulkAll parts + 1
  | .iface _ d => uptoBulk d + 1
  | .map entries => uptoBulkEntries entries + 1
  | .held _ => 1
def uptoBulkAll {H : Type} : List (DataW H) → Nat
  | [] => 0
  | d :: r => uptoBulk d + uptoBulkAll r
def uptoBulkEntries {H : Type} : List (Lit × DataW H) → Nat
  | [] => 0
  | x :: r => uptoBulkEntry x + uptoBulkEntries r
def uptoBulkEntry {H : Type} : Lit × DataW H → Nat
  | (.string bytes, d) => bytes.length + uptoBulk d + 1
  | (_, d) => uptoBulk d + 1
 end
def uptoSmall : (H : Type) → List (DataW H) → Bool := fun _ ds => decide (uptoBulkAll ds ≤ 1048576)
def OpenSpec.upto (s : _root_.Go.ChangeSpec) : _root_.Go.OpenSpec := { _root_.Go.OpenSpec.ofChange s with cond := some uptoSmall }

/-- 'overdublaw02.RiceRises', WHERE WHAT IT READS IS OF BULK AT MOST 1048576: true; the input reads as it did. -/
def riceRisesUptoRow : OpenClaim := { program := "ytpdleoehllhbkaa", sum := "9e06aa8cdf47a3d116dfd20875fb3144c80f3211ae19d48950e6fce961d3b11c", func := "overdub/overdublaw02.RiceRises", spec := "riceRises", apart := false, narrowed := true }
def RiceRisesUptoSaid : Prop := riceRisesUptoRow.holds Try.pinned (OpenSpec.upto riceRisesSpec)

/-- 'overdublaw02.RiceZigs', WHERE WHAT IT READS IS OF BULK AT MOST 1048576: true; the input reads as it did. -/
def riceZigsUptoRow : OpenClaim := { program := "ytpdleoehllhbkaa", sum := "9e06aa8cdf47a3d116dfd20875fb3144c80f3211ae19d48950e6fce961d3b11c", func := "overdub/overdublaw02.RiceZigs", spec := "riceZigs", apart := false, narrowed := true }
def RiceZigsUptoSaid : Prop := riceZigsUptoRow.holds Try.pinned (OpenSpec.upto riceZigsSpec)

/-- 'overdublaw02.RiceParams', WHERE WHAT IT READS IS OF BULK AT MOST 1048576: true; the input reads as it did. -/
def riceParamsUptoRow : OpenClaim := { program := "ytpdleoehllhbkaa", sum := "9e06aa8cdf47a3d116dfd20875fb3144c80f3211ae19d48950e6fce961d3b11c", func := "overdub/overdublaw02.RiceParams", spec := "riceParams", apart := false, narrowed := true }
def RiceParamsUptoSaid : Prop := riceParamsUptoRow.holds Try.pinned (OpenSpec.upto riceParamsSpec)

/-- 'overdublaw02.RiceSizes', WHERE WHAT IT READS IS OF BULK AT MOST 1048576: true; the input reads as it did. -/
def riceSizesUptoRow : OpenClaim := { program := "ytpdleoehllhbkaa", sum := "9e06aa8cdf47a3d116dfd20875fb3144c80f3211ae19d48950e6fce961d3b11c", func := "overdub/overdublaw02.RiceSizes", spec := "riceSizes", apart := false, narrowed := true }
def RiceSizesUptoSaid : Prop := riceSizesUptoRow.holds Try.pinned (OpenSpec.upto riceSizesSpec)

/-- 'overdublaw02.RicePuts', WHERE WHAT IT READS IS OF BULK AT MOST 1048576: true; the input reads as it did. -/
def ricePutsUptoRow : OpenClaim := { program := "ytpdleoehllhbkaa", sum := "9e06aa8cdf47a3d116dfd20875fb3144c80f3211ae19d48950e6fce961d3b11c", func := "overdub/overdublaw02.RicePuts", spec := "ricePuts", apart := false, narrowed := true }
def RicePutsUptoSaid : Prop := ricePutsUptoRow.holds Try.pinned (OpenSpec.upto ricePutsSpec)

/-- 'overdublaw02.RiceGets', WHERE WHAT IT READS IS OF BULK AT MOST 1048576: true; the input reads as it did. -/
def riceGetsUptoRow : OpenClaim := { program := "ytpdleoehllhbkaa", sum := "9e06aa8cdf47a3d116dfd20875fb3144c80f3211ae19d48950e6fce961d3b11c", func := "overdub/overdublaw02.RiceGets", spec := "riceGets", apart := false, narrowed := true }
def RiceGetsUptoSaid : Prop := riceGetsUptoRow.holds Try.pinned (OpenSpec.upto riceGetsSpec)

/-- 'overdublaw02.RiceBack', WHERE WHAT IT READS IS OF BULK AT MOST 1048576: true; the input reads as it did. -/
def riceBackUptoRow : OpenClaim := { program := "ytpdleoehllhbkaa", sum := "9e06aa8cdf47a3d116dfd20875fb3144c80f3211ae19d48950e6fce961d3b11c", func := "overdub/overdublaw02.RiceBack", spec := "riceBack", apart := false, narrowed := true }
def RiceBackUptoSaid : Prop := riceBackUptoRow.holds Try.pinned (OpenSpec.upto riceBackSpec)

end Rows
end Go.Proofs.Ytpdleoehllhbkaa
