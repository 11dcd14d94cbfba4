/-
  No cell of these rows narrows 'for every input' (looked for: loops, veiled, ifaces, maps, wideKeys, modest, calm, conditions, laid).
  DERIVED. THE GIVEN ROWS OF THIS SEAT. 7 by the template 'for every input the law returns true; each argument reads behind the call as it read before'; 0 by the template 'total and deterministic' (their statements: YtbknenfbdhginaaTotals.lean).
  GIVEN WITH THE SEED: the statements are not yours to turn. If you find one false, say at which input.
  Laid BY PROGRAM, IN A SANDBOX (cutbox-rows.mjs): the forced cells as the released guide's own fill.sh prints them over the translation 1415aa188617e997… (all of the seat's roots in one cut). By AI agents, Wed Nov 11 2026. No macro, syntax, notation, axiom, sorry.
-/
import Derived.Test.YtbknenfbdhginaaChecked
import GoSem.Claim
import GoSem.ClaimJoined
import GoSem.ClaimMapViews
import Derived.JoinedTies
import Derived.KernelRfl
namespace Go.Proofs.Ytbknenfbdhginaa
/- THE CELL 'sum', in the pinned program and in every row, IS THE sha256 OF THE DUMP (.gsa) THAT YtbknenfbdhginaaProg.lean LOADS. Nothing in Lean hashes anything: it is a label: what it is worth is what the hold of that sum in a sandbox is worth. -/
noncomputable def Try.pinned : Pinned := { name := "ytbknenfbdhginaa", sum := "1415aa188617e9979bddc857747331492c101075bcbee60605c0aecc6a9d7a8a", checked := Try.checked }
namespace Rows
def none {H : Type} : Left H := { results := [], args := [] }

/-- 'overdublaw06.LpcOne': WHATEVER THE INPUT: true; the input reads as it did. -/
def lpcOneSpec : ChangeSpec := { name := "lpcOne", fn := fun _ => fun
  | [d1, d2] => { results := [.lit (.bool true)], args := [d1, d2] }
  | _ => none }
def lpcOneRow : OpenClaim := { program := "ytbknenfbdhginaa", sum := "1415aa188617e9979bddc857747331492c101075bcbee60605c0aecc6a9d7a8a", func := "overdub/overdublaw06.LpcOne", spec := "lpcOne", apart := false }
def LpcOneSaid : Prop := lpcOneRow.holds Try.pinned (OpenSpec.ofChange lpcOneSpec)

/-- ITS FALSE NEIGHBOUR: 'it returns false'. Refute it at one input. -/
def lpcOneWrong : ChangeSpec := { name := "lpcOne", fn := fun _ => fun
  | [d1, d2] => { results := [.lit (.bool false)], args := [d1, d2] }
  | _ => none }
def LpcOneWrongFalsely : Prop := lpcOneRow.holds Try.pinned (OpenSpec.ofChange lpcOneWrong)

/-- 'overdublaw06.LpcGuesses': WHATEVER THE INPUT: true; the input reads as it did. -/
def lpcGuessesSpec : ChangeSpec := { name := "lpcGuesses", fn := fun _ => fun
  | [d1, d2] => { results := [.lit (.bool true)], args := [d1, d2] }
  | _ => none }
def lpcGuessesRow : OpenClaim := { program := "ytbknenfbdhginaa", sum := "1415aa188617e9979bddc857747331492c101075bcbee60605c0aecc6a9d7a8a", func := "overdub/overdublaw06.LpcGuesses", spec := "lpcGuesses", apart := false }
def LpcGuessesSaid : Prop := lpcGuessesRow.holds Try.pinned (OpenSpec.ofChange lpcGuessesSpec)

/-- ITS FALSE NEIGHBOUR: 'it returns false'. Refute it at one input. -/
def lpcGuessesWrong : ChangeSpec := { name := "lpcGuesses", fn := fun _ => fun
  | [d1, d2] => { results := [.lit (.bool false)], args := [d1, d2] }
  | _ => none }
def LpcGuessesWrongFalsely : Prop := lpcGuessesRow.holds Try.pinned (OpenSpec.ofChange lpcGuessesWrong)

/-- 'overdublaw06.LpcNoughts': WHATEVER THE INPUT: true; the input reads as it did. -/
def lpcNoughtsSpec : ChangeSpec := { name := "lpcNoughts", fn := fun _ => fun
  | [d1, d2, d3] => { results := [.lit (.bool true)], args := [d1, d2, d3] }
  | _ => none }
def lpcNoughtsRow : OpenClaim := { program := "ytbknenfbdhginaa", sum := "1415aa188617e9979bddc857747331492c101075bcbee60605c0aecc6a9d7a8a", func := "overdub/overdublaw06.LpcNoughts", spec := "lpcNoughts", apart := false }
def LpcNoughtsSaid : Prop := lpcNoughtsRow.holds Try.pinned (OpenSpec.ofChange lpcNoughtsSpec)

/-- ITS FALSE NEIGHBOUR: 'it returns false'. Refute it at one input. -/
def lpcNoughtsWrong : ChangeSpec := { name := "lpcNoughts", fn := fun _ => fun
  | [d1, d2, d3] => { results := [.lit (.bool false)], args := [d1, d2, d3] }
  | _ => none }
def LpcNoughtsWrongFalsely : Prop := lpcNoughtsRow.holds Try.pinned (OpenSpec.ofChange lpcNoughtsWrong)

/-- 'overdublaw06.LpcErrors': WHATEVER THE INPUT: true; the input reads as it did. -/
def lpcErrorsSpec : ChangeSpec := { name := "lpcErrors", fn := fun _ => fun
  | [d1, d2] => { results := [.lit (.bool true)], args := [d1, d2] }
  | _ => none }
def lpcErrorsRow : OpenClaim := { program := "ytbknenfbdhginaa", sum := "1415aa188617e9979bddc857747331492c101075bcbee60605c0aecc6a9d7a8a", func := "overdub/overdublaw06.LpcErrors", spec := "lpcErrors", unfollowed := true, recurses := true, apart := false }
def LpcErrorsSaid : Prop := lpcErrorsRow.holds Try.pinned (OpenSpec.ofChange lpcErrorsSpec)

/-- ITS FALSE NEIGHBOUR: 'it returns false'. Refute it at one input. -/
def lpcErrorsWrong : ChangeSpec := { name := "lpcErrors", fn := fun _ => fun
  | [d1, d2] => { results := [.lit (.bool false)], args := [d1, d2] }
  | _ => none }
def LpcErrorsWrongFalsely : Prop := lpcErrorsRow.holds Try.pinned (OpenSpec.ofChange lpcErrorsWrong)

/-- 'overdublaw06.LpcResiduals': WHATEVER THE INPUT: true; the input reads as it did. -/
def lpcResidualsSpec : ChangeSpec := { name := "lpcResiduals", fn := fun _ => fun
  | [d1, d2, d3, d4, d5, d6] => { results := [.lit (.bool true)], args := [d1, d2, d3, d4, d5, d6] }
  | _ => none }
def lpcResidualsRow : OpenClaim := { program := "ytbknenfbdhginaa", sum := "1415aa188617e9979bddc857747331492c101075bcbee60605c0aecc6a9d7a8a", func := "overdub/overdublaw06.LpcResiduals", spec := "lpcResiduals", unfollowed := true, recurses := true, apart := false }
def LpcResidualsSaid : Prop := lpcResidualsRow.holds Try.pinned (OpenSpec.ofChange lpcResidualsSpec)

/-- ITS FALSE NEIGHBOUR: 'it returns false'. Refute it at one input. -/
def lpcResidualsWrong : ChangeSpec := { name := "lpcResiduals", fn := fun _ => fun
  | [d1, d2, d3, d4, d5, d6] => { results := [.lit (.bool false)], args := [d1, d2, d3, d4, d5, d6] }
  | _ => none }
def LpcResidualsWrongFalsely : Prop := lpcResidualsRow.holds Try.pinned (OpenSpec.ofChange lpcResidualsWrong)

/-- 'overdublaw06.LpcBack': WHATEVER THE INPUT: true; the input reads as it did. -/
def lpcBackSpec : ChangeSpec := { name := "lpcBack", fn := fun _ => fun
  | [d1, d2] => { results := [.lit (.bool true)], args := [d1, d2] }
  | _ => none }
def lpcBackRow : OpenClaim := { program := "ytbknenfbdhginaa", sum := "1415aa188617e9979bddc857747331492c101075bcbee60605c0aecc6a9d7a8a", func := "overdub/overdublaw06.LpcBack", spec := "lpcBack", unfollowed := true, recurses := true, apart := false }
def LpcBackSaid : Prop := lpcBackRow.holds Try.pinned (OpenSpec.ofChange lpcBackSpec)

/-- ITS FALSE NEIGHBOUR: 'it returns false'. Refute it at one input. -/
def lpcBackWrong : ChangeSpec := { name := "lpcBack", fn := fun _ => fun
  | [d1, d2] => { results := [.lit (.bool false)], args := [d1, d2] }
  | _ => none }
def LpcBackWrongFalsely : Prop := lpcBackRow.holds Try.pinned (OpenSpec.ofChange lpcBackWrong)

/-- 'overdublaw06.LpcFixed': WHATEVER THE INPUT: true; the input reads as it did. -/
def lpcFixedSpec : ChangeSpec := { name := "lpcFixed", fn := fun _ => fun
  | [d1, d2] => { results := [.lit (.bool true)], args := [d1, d2] }
  | _ => none }
def lpcFixedRow : OpenClaim := { program := "ytbknenfbdhginaa", sum := "1415aa188617e9979bddc857747331492c101075bcbee60605c0aecc6a9d7a8a", func := "overdub/overdublaw06.LpcFixed", spec := "lpcFixed", apart := false }
def LpcFixedSaid : Prop := lpcFixedRow.holds Try.pinned (OpenSpec.ofChange lpcFixedSpec)

/-- ITS FALSE NEIGHBOUR: 'it returns false'. Refute it at one input. -/
def lpcFixedWrong : ChangeSpec := { name := "lpcFixed", fn := fun _ => fun
  | [d1, d2] => { results := [.lit (.bool false)], args := [d1, d2] }
  | _ => none }
def LpcFixedWrongFalsely : Prop := lpcFixedRow.holds Try.pinned (OpenSpec.ofChange lpcFixedWrong)

/- THE SECOND FORM. 'bulk': how many values and letters a reading holds, each counted each time it is reached (what is shared counts as often as it is met; a slice's spare places count too). A statement '..UptoSaid' is the law's where the arguments, and the package variables that the reading takes, are together of bulk at most 1048576: NARROWER than '..Said'. Prove '..Said' where nothing that the law and all that it calls make is longer than what came in: it says more and counts as full. Else prove '..UptoSaid'. A law counts once. -/
mutual
def uptoBulk {H : Type} : DataW H → Nat
  | .lit (.string bytes) => bytes.length + 1
  | .lit _ => 1
  | .nil => 1
  | .ptr d => uptoBulk d + 1
  | .slice elems spare => uptoBulkAll elems + uptoBulkAll spare + 1
  | .agg parts => uptoBulkAll parts + 1
  | .iface _ d => uptoBulk d + 1
  | .map entries => uptoBulkEntries entries + 1
  | .held _ => 1
def uptoBulkAll {H : Type} : List (DataW H) → Nat
  | [] => 0
  | d :: r => uptoBulk d + uptoBulkAll r
def uptoBulkEntries {H : Type} : List (Lit × DataW H) → Nat
  | [] => 0
  | x :: r => uptoBulkEntry x + uptoBulkEntries r
def uptoBulkEntry {H : Type} : Lit × DataW H → Nat
  | (.string bytes, d) => bytes.length + uptoBulk d + 1
  | (_, d) => uptoBulk d + 1
 end
def uptoSmall : (H : Type) → List (DataW H) → Bool := fun _ ds => decide (uptoBulkAll ds ≤ 1048576)
def OpenSpec.upto (s : _root_.Go.ChangeSpec) : _root_.Go.OpenSpec := { _root_.Go.OpenSpec.ofChange s with cond := some uptoSmall }

/-- 'overdublaw06.LpcOne', WHERE WHAT IT READS IS OF BULK AT MOST 1048576: true; the input reads as it did. -/
def lpcOneUptoRow : OpenClaim := { program := "ytbknenfbdhginaa", sum := "1415aa188617e9979bddc857747331492c101075bcbee60605c0aecc6a9d7a8a", func := "overdub/overdublaw06.LpcOne", spec := "lpcOne", apart := false, narrowed := true }
def LpcOneUptoSaid : Prop := lpcOneUptoRow.holds Try.pinned (OpenSpec.upto lpcOneSpec)

/-- 'overdublaw06.LpcGuesses', WHERE WHAT IT READS IS OF BULK AT MOST 1048576: true; the input reads as it did. -/
def lpcGuessesUptoRow : OpenClaim := { program := "ytbknenfbdhginaa", sum := "1415aa188617e9979bddc857747331492c101075bcbee60605c0aecc6a9d7a8a", func := "overdub/overdublaw06.LpcGuesses", spec := "lpcGuesses", apart := false, narrowed := true }
def LpcGuessesUptoSaid : Prop := lpcGuessesUptoRow.holds Try.pinned (OpenSpec.upto lpcGuessesSpec)

/-- 'overdublaw06.LpcNoughts', WHERE WHAT IT READS IS OF BULK AT MOST 1048576: true; the input reads as it did. -/
def lpcNoughtsUptoRow : OpenClaim := { program := "ytbknenfbdhginaa", sum := "1415aa188617e9979bddc857747331492c101075bcbee60605c0aecc6a9d7a8a", func := "overdub/overdublaw06.LpcNoughts", spec := "lpcNoughts", apart := false, narrowed := true }
def LpcNoughtsUptoSaid : Prop := lpcNoughtsUptoRow.holds Try.pinned (OpenSpec.upto lpcNoughtsSpec)

/-- 'overdublaw06.LpcErrors', WHERE WHAT IT READS IS OF BULK AT MOST 1048576: true; the input reads as it did. -/
def lpcErrorsUptoRow : OpenClaim := { program := "ytbknenfbdhginaa", sum := "1415aa188617e9979bddc857747331492c101075bcbee60605c0aecc6a9d7a8a", func := "overdub/overdublaw06.LpcErrors", spec := "lpcErrors", unfollowed := true, recurses := true, apart := false, narrowed := true }
def LpcErrorsUptoSaid : Prop := lpcErrorsUptoRow.holds Try.pinned (OpenSpec.upto lpcErrorsSpec)

/-- 'overdublaw06.LpcResiduals', WHERE WHAT IT READS IS OF BULK AT MOST 1048576: true; the input reads as it did. -/
def lpcResidualsUptoRow : OpenClaim := { program := "ytbknenfbdhginaa", sum := "1415aa188617e9979bddc857747331492c101075bcbee60605c0aecc6a9d7a8a", func := "overdub/overdublaw06.LpcResiduals", spec := "lpcResiduals", unfollowed := true, recurses := true, apart := false, narrowed := true }
def LpcResidualsUptoSaid : Prop := lpcResidualsUptoRow.holds Try.pinned (OpenSpec.upto lpcResidualsSpec)

/-- 'overdublaw06.LpcBack', WHERE WHAT IT READS IS OF BULK AT MOST 1048576: true; the input reads as it did. -/
def lpcBackUptoRow : OpenClaim := { program := "ytbknenfbdhginaa", sum := "1415aa188617e9979bddc857747331492c101075bcbee60605c0aecc6a9d7a8a", func := "overdub/overdublaw06.LpcBack", spec := "lpcBack", unfollowed := true, recurses := true, apart := false, narrowed := true }
def LpcBackUptoSaid : Prop := lpcBackUptoRow.holds Try.pinned (OpenSpec.upto lpcBackSpec)

/-- 'overdublaw06.LpcFixed', WHERE WHAT IT READS IS OF BULK AT MOST 1048576: true; the input reads as it did. -/
def lpcFixedUptoRow : OpenClaim := { program := "ytbknenfbdhginaa", sum := "1415aa188617e9979bddc857747331492c101075bcbee60605c0aecc6a9d7a8a", func := "overdub/overdublaw06.LpcFixed", spec := "lpcFixed", apart := false, narrowed := true }
def LpcFixedUptoSaid : Prop := lpcFixedUptoRow.holds Try.pinned (OpenSpec.upto lpcFixedSpec)

end Rows
end Go.Proofs.Ytbknenfbdhginaa
