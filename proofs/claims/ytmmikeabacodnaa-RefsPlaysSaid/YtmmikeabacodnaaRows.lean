/-
  No cell of these rows narrows 'for every input' (looked for: loops, veiled, ifaces, maps, wideKeys, modest, calm, conditions, laid).
  DERIVED. THE GIVEN ROWS OF THIS SEAT. 4 by the template 'for every input the law returns true; each argument reads behind the call as it read before'; 0 by the template 'total and deterministic' (their statements: YtmmikeabacodnaaTotals.lean).
  GIVEN WITH THE SEED: the statements are not yours to turn. If you find one false, say at which input.
  Laid BY PROGRAM, IN A SANDBOX (cutbox-rows.mjs): the forced cells as the released guide's own fill.sh prints them over the translation 6a47c7755d7e9139… (all of the seat's roots in one cut). By AI agents, Wed Nov 11 2026. No macro, syntax, notation, axiom, sorry.
-/
import Derived.Test.YtmmikeabacodnaaChecked
import GoSem.Claim
import GoSem.ClaimJoined
import GoSem.ClaimMapViews
import Derived.JoinedTies
import Derived.KernelRfl
namespace Go.Proofs.Ytmmikeabacodnaa
/- THE CELL 'sum', in the pinned program and in every row, IS THE sha256 OF THE DUMP (.gsa) THAT YtmmikeabacodnaaProg.lean LOADS. Nothing in Lean hashes anything: it is a label: what it is worth is what the hold of that sum in a sandbox is worth. -/
noncomputable def Try.pinned : Pinned := { name := "ytmmikeabacodnaa", sum := "6a47c7755d7e9139c973ccfaeab0b20e71946c34143a264b2b2c8e95f059b3c8", checked := Try.checked }
namespace Rows
def none {H : Type} : Left H := { results := [], args := [] }

/-- 'overdublaw12.RefsLimits': WHATEVER THE INPUT: true; the input reads as it did. -/
def refsLimitsSpec : ChangeSpec := { name := "refsLimits", fn := fun _ => fun
  | [d1, d2, d3] => { results := [.lit (.bool true)], args := [d1, d2, d3] }
  | _ => none }
def refsLimitsRow : OpenClaim := { program := "ytmmikeabacodnaa", sum := "6a47c7755d7e9139c973ccfaeab0b20e71946c34143a264b2b2c8e95f059b3c8", func := "overdub/overdublaw12.RefsLimits", spec := "refsLimits", apart := false }
def RefsLimitsSaid : Prop := refsLimitsRow.holds Try.pinned (OpenSpec.ofChange refsLimitsSpec)

/-- ITS FALSE NEIGHBOUR: 'it returns false'. Refute it at one input. -/
def refsLimitsWrong : ChangeSpec := { name := "refsLimits", fn := fun _ => fun
  | [d1, d2, d3] => { results := [.lit (.bool false)], args := [d1, d2, d3] }
  | _ => none }
def RefsLimitsWrongFalsely : Prop := refsLimitsRow.holds Try.pinned (OpenSpec.ofChange refsLimitsWrong)

/-- 'overdublaw12.RefsBack': WHATEVER THE INPUT: true; the input reads as it did. -/
def refsBackSpec : ChangeSpec := { name := "refsBack", fn := fun _ => fun
  | [d1, d2] => { results := [.lit (.bool true)], args := [d1, d2] }
  | _ => none }
def refsBackRow : OpenClaim := { program := "ytmmikeabacodnaa", sum := "6a47c7755d7e9139c973ccfaeab0b20e71946c34143a264b2b2c8e95f059b3c8", func := "overdub/overdublaw12.RefsBack", spec := "refsBack", apart := false }
def RefsBackSaid : Prop := refsBackRow.holds Try.pinned (OpenSpec.ofChange refsBackSpec)

/-- ITS FALSE NEIGHBOUR: 'it returns false'. Refute it at one input. -/
def refsBackWrong : ChangeSpec := { name := "refsBack", fn := fun _ => fun
  | [d1, d2] => { results := [.lit (.bool false)], args := [d1, d2] }
  | _ => none }
def RefsBackWrongFalsely : Prop := refsBackRow.holds Try.pinned (OpenSpec.ofChange refsBackWrong)

/-- 'overdublaw12.RefsOrder': WHATEVER THE INPUT: true; the input reads as it did. -/
def refsOrderSpec : ChangeSpec := { name := "refsOrder", fn := fun _ => fun
  | [d1, d2] => { results := [.lit (.bool true)], args := [d1, d2] }
  | _ => none }
def refsOrderRow : OpenClaim := { program := "ytmmikeabacodnaa", sum := "6a47c7755d7e9139c973ccfaeab0b20e71946c34143a264b2b2c8e95f059b3c8", func := "overdub/overdublaw12.RefsOrder", spec := "refsOrder", apart := false }
def RefsOrderSaid : Prop := refsOrderRow.holds Try.pinned (OpenSpec.ofChange refsOrderSpec)

/-- ITS FALSE NEIGHBOUR: 'it returns false'. Refute it at one input. -/
def refsOrderWrong : ChangeSpec := { name := "refsOrder", fn := fun _ => fun
  | [d1, d2] => { results := [.lit (.bool false)], args := [d1, d2] }
  | _ => none }
def RefsOrderWrongFalsely : Prop := refsOrderRow.holds Try.pinned (OpenSpec.ofChange refsOrderWrong)

/-- 'overdublaw12.RefsPlays': WHATEVER THE INPUT: true; the input reads as it did. -/
def refsPlaysSpec : ChangeSpec := { name := "refsPlays", fn := fun _ => fun
  | [d1, d2, d3] => { results := [.lit (.bool true)], args := [d1, d2, d3] }
  | _ => none }
def refsPlaysRow : OpenClaim := { program := "ytmmikeabacodnaa", sum := "6a47c7755d7e9139c973ccfaeab0b20e71946c34143a264b2b2c8e95f059b3c8", func := "overdub/overdublaw12.RefsPlays", spec := "refsPlays", apart := false }
def RefsPlaysSaid : Prop := refsPlaysRow.holds Try.pinned (OpenSpec.ofChange refsPlaysSpec)

/-- ITS FALSE NEIGHBOUR: 'it returns false'. Refute it at one input. -/
def refsPlaysWrong : ChangeSpec := { name := "refsPlays", fn := fun _ => fun
  | [d1, d2, d3] => { results := [.lit (.bool false)], args := [d1, d2, d3] }
  | _ => none }
def RefsPlaysWrongFalsely : Prop := refsPlaysRow.holds Try.pinned (OpenSpec.ofChange refsPlaysWrong)

/- THE SECOND FORM. 'bulk': how many values and letters a reading holds, each counted each time it is reached (what is shared counts as often as it is met; a slice's spare places count too). A statement '..UptoSaid' is the law's where the arguments, and the package variables that the reading takes, are together of bulk at most 1048576: NARROWER than '..Said'. Prove '..Said' where nothing that the law and all that it calls make is longer than what came in: it says more and counts as full. Else prove '..UptoSaid'. A law counts once. -/
mutual
def uptoBulk {H : Type} : DataW H → Nat
  | .lit (.string bytes) => bytes.length + 1
  | .lit _ => 1
  | .nil => 1
  | .ptr d => uptoBulk d + 1
  | .slice elems spare => uptoBulkAll elems + uptoBulkAll spare + 1
  | .agg parts => uptoBulkAll parts + 1
  | .iface _ d => uptoBulk d + 1
  | .map entries => uptoBulkEntries entries + 1
  | .held _ => 1
def uptoBulkAll {H : Type} : List (DataW H) → Nat
  | [] => 0
  | d :: r => uptoBulk d + uptoBulkAll r
def uptoBulkEntries {H : Type} : List (Lit × DataW H) → Nat
  | [] => 0
  | x :: r => uptoBulkEntry x + uptoBulkEntries r
def uptoBulkEntry {H : Type} : Lit × DataW H → Nat
  | (.string bytes, d) => bytes.length + uptoBulk d + 1
  | (_, d) => uptoBulk d + 1
 end
def uptoSmall : (H : Type) → List (DataW H) → Bool := fun _ ds => decide (uptoBulkAll ds ≤ 1048576)
def OpenSpec.upto (s : _root_.Go.ChangeSpec) : _root_.Go.OpenSpec := { _root_.Go.OpenSpec.ofChange s with cond := some uptoSmall }

/-- 'overdublaw12.RefsLimits', WHERE WHAT IT READS IS OF BULK AT MOST 1048576: true; the input reads as it did. -/
def refsLimitsUptoRow : OpenClaim := { program := "ytmmikeabacodnaa", sum := "6a47c7755d7e9139c973ccfaeab0b20e71946c34143a264b2b2c8e95f059b3c8", func := "overdub/overdublaw12.RefsLimits", spec := "refsLimits", apart := false, narrowed := true }
def RefsLimitsUptoSaid : Prop := refsLimitsUptoRow.holds Try.pinned (OpenSpec.upto refsLimitsSpec)

/-- 'overdublaw12.RefsBack', WHERE WHAT IT READS IS OF BULK AT MOST 1048576: true; the input reads as it did. -/
def refsBackUptoRow : OpenClaim := { program := "ytmmikeabacodnaa", sum := "6a47c7755d7e9139c973ccfaeab0b20e71946c34143a264b2b2c8e95f059b3c8", func := "overdub/overdublaw12.RefsBack", spec := "refsBack", apart := false, narrowed := true }
def RefsBackUptoSaid : Prop := refsBackUptoRow.holds Try.pinned (OpenSpec.upto refsBackSpec)

/-- 'overdublaw12.RefsOrder', WHERE WHAT IT READS IS OF BULK AT MOST 1048576: true; the input reads as it did. -/
def refsOrderUptoRow : OpenClaim := { program := "ytmmikeabacodnaa", sum := "6a47c7755d7e9139c973ccfaeab0b20e71946c34143a264b2b2c8e95f059b3c8", func := "overdub/overdublaw12.RefsOrder", spec := "refsOrder", apart := false, narrowed := true }
def RefsOrderUptoSaid : Prop := refsOrderUptoRow.holds Try.pinned (OpenSpec.upto refsOrderSpec)

/-- 'overdublaw12.RefsPlays', WHERE WHAT IT READS IS OF BULK AT MOST 1048576: true; the input reads as it did. -/
def refsPlaysUptoRow : OpenClaim := { program := "ytmmikeabacodnaa", sum := "6a47c7755d7e9139c973ccfaeab0b20e71946c34143a264b2b2c8e95f059b3c8", func := "overdub/overdublaw12.RefsPlays", spec := "refsPlays", apart := false, narrowed := true }
def RefsPlaysUptoSaid : Prop := refsPlaysUptoRow.holds Try.pinned (OpenSpec.upto refsPlaysSpec)

end Rows
end Go.Proofs.Ytmmikeabacodnaa
