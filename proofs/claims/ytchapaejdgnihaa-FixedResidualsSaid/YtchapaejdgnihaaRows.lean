/-
  No cell of these rows narrows 'for every input' (looked for: loops, veiled, ifaces, maps, wideKeys, modest, calm, conditions, laid).
  DERIVED. THE GIVEN ROWS OF THIS SEAT. 6 by the template 'for every input the law returns true; each argument reads behind the call as it read before'; 0 by the template 'total and deterministic' (their statements: YtchapaejdgnihaaTotals.lean).
  GIVEN WITH THE SEED: the statements are not yours to turn. If you find one false, say at which input.
  Laid BY PROGRAM, IN A SANDBOX (cutbox-rows.mjs): the forced cells as the released guide's own fill.sh prints them over the translation 0d906f99d63f1de9… (all of the seat's roots in one cut). By AI agents, Wed Nov 11 2026. No macro, syntax, notation, axiom, sorry.
-/
import Derived.Test.YtchapaejdgnihaaChecked
import GoSem.Claim
import GoSem.ClaimJoined
import GoSem.ClaimMapViews
import Derived.JoinedTies
import Derived.KernelRfl
namespace Go.Proofs.Ytchapaejdgnihaa
/- THE CELL 'sum', in the pinned program and in every row, IS THE sha256 OF THE DUMP (.gsa) THAT YtchapaejdgnihaaProg.lean LOADS. Nothing in Lean hashes anything: it is a label: what it is worth is what the hold of that sum in a sandbox is worth. -/
noncomputable def Try.pinned : Pinned := { name := "ytchapaejdgnihaa", sum := "0d906f99d63f1de9c6b3647e39da770b6882e44958ec7bdfd50fac39b976fecb", checked := Try.checked }
namespace Rows
def none {H : Type} : Left H := { results := [], args := [] }

/-- 'overdublaw05.FixedSums': WHATEVER THE INPUT: true; the input reads as it did. -/
def fixedSumsSpec : ChangeSpec := { name := "fixedSums", fn := fun _ => fun
  | [d1, d2, d3] => { results := [.lit (.bool true)], args := [d1, d2, d3] }
  | _ => none }
def fixedSumsRow : OpenClaim := { program := "ytchapaejdgnihaa", sum := "0d906f99d63f1de9c6b3647e39da770b6882e44958ec7bdfd50fac39b976fecb", func := "overdub/overdublaw05.FixedSums", spec := "fixedSums", apart := false }
def FixedSumsSaid : Prop := fixedSumsRow.holds Try.pinned (OpenSpec.ofChange fixedSumsSpec)

/-- ITS FALSE NEIGHBOUR: 'it returns false'. Refute it at one input. -/
def fixedSumsWrong : ChangeSpec := { name := "fixedSums", fn := fun _ => fun
  | [d1, d2, d3] => { results := [.lit (.bool false)], args := [d1, d2, d3] }
  | _ => none }
def FixedSumsWrongFalsely : Prop := fixedSumsRow.holds Try.pinned (OpenSpec.ofChange fixedSumsWrong)

/-- 'overdublaw05.FixedResiduals': WHATEVER THE INPUT: true; the input reads as it did. -/
def fixedResidualsSpec : ChangeSpec := { name := "fixedResiduals", fn := fun _ => fun
  | [d1, d2, d3] => { results := [.lit (.bool true)], args := [d1, d2, d3] }
  | _ => none }
def fixedResidualsRow : OpenClaim := { program := "ytchapaejdgnihaa", sum := "0d906f99d63f1de9c6b3647e39da770b6882e44958ec7bdfd50fac39b976fecb", func := "overdub/overdublaw05.FixedResiduals", spec := "fixedResiduals", apart := false }
def FixedResidualsSaid : Prop := fixedResidualsRow.holds Try.pinned (OpenSpec.ofChange fixedResidualsSpec)

/-- ITS FALSE NEIGHBOUR: 'it returns false'. Refute it at one input. -/
def fixedResidualsWrong : ChangeSpec := { name := "fixedResiduals", fn := fun _ => fun
  | [d1, d2, d3] => { results := [.lit (.bool false)], args := [d1, d2, d3] }
  | _ => none }
def FixedResidualsWrongFalsely : Prop := fixedResidualsRow.holds Try.pinned (OpenSpec.ofChange fixedResidualsWrong)

/-- 'overdublaw05.FixedPowers': WHATEVER THE INPUT: true; the input reads as it did. -/
def fixedPowersSpec : ChangeSpec := { name := "fixedPowers", fn := fun _ => fun
  | [d1, d2, d3, d4, d5, d6] => { results := [.lit (.bool true)], args := [d1, d2, d3, d4, d5, d6] }
  | _ => none }
def fixedPowersRow : OpenClaim := { program := "ytchapaejdgnihaa", sum := "0d906f99d63f1de9c6b3647e39da770b6882e44958ec7bdfd50fac39b976fecb", func := "overdub/overdublaw05.FixedPowers", spec := "fixedPowers", unfollowed := true, recurses := true, apart := false }
def FixedPowersSaid : Prop := fixedPowersRow.holds Try.pinned (OpenSpec.ofChange fixedPowersSpec)

/-- ITS FALSE NEIGHBOUR: 'it returns false'. Refute it at one input. -/
def fixedPowersWrong : ChangeSpec := { name := "fixedPowers", fn := fun _ => fun
  | [d1, d2, d3, d4, d5, d6] => { results := [.lit (.bool false)], args := [d1, d2, d3, d4, d5, d6] }
  | _ => none }
def FixedPowersWrongFalsely : Prop := fixedPowersRow.holds Try.pinned (OpenSpec.ofChange fixedPowersWrong)

/-- 'overdublaw05.FixedErrors': WHATEVER THE INPUT: true; the input reads as it did. -/
def fixedErrorsSpec : ChangeSpec := { name := "fixedErrors", fn := fun _ => fun
  | [d1, d2, d3] => { results := [.lit (.bool true)], args := [d1, d2, d3] }
  | _ => none }
def fixedErrorsRow : OpenClaim := { program := "ytchapaejdgnihaa", sum := "0d906f99d63f1de9c6b3647e39da770b6882e44958ec7bdfd50fac39b976fecb", func := "overdub/overdublaw05.FixedErrors", spec := "fixedErrors", unfollowed := true, recurses := true, apart := false }
def FixedErrorsSaid : Prop := fixedErrorsRow.holds Try.pinned (OpenSpec.ofChange fixedErrorsSpec)

/-- ITS FALSE NEIGHBOUR: 'it returns false'. Refute it at one input. -/
def fixedErrorsWrong : ChangeSpec := { name := "fixedErrors", fn := fun _ => fun
  | [d1, d2, d3] => { results := [.lit (.bool false)], args := [d1, d2, d3] }
  | _ => none }
def FixedErrorsWrongFalsely : Prop := fixedErrorsRow.holds Try.pinned (OpenSpec.ofChange fixedErrorsWrong)

/-- 'overdublaw05.FixedRestores': WHATEVER THE INPUT: true; the input reads as it did. -/
def fixedRestoresSpec : ChangeSpec := { name := "fixedRestores", fn := fun _ => fun
  | [d1, d2, d3, d4] => { results := [.lit (.bool true)], args := [d1, d2, d3, d4] }
  | _ => none }
def fixedRestoresRow : OpenClaim := { program := "ytchapaejdgnihaa", sum := "0d906f99d63f1de9c6b3647e39da770b6882e44958ec7bdfd50fac39b976fecb", func := "overdub/overdublaw05.FixedRestores", spec := "fixedRestores", unfollowed := true, recurses := true, apart := false }
def FixedRestoresSaid : Prop := fixedRestoresRow.holds Try.pinned (OpenSpec.ofChange fixedRestoresSpec)

/-- ITS FALSE NEIGHBOUR: 'it returns false'. Refute it at one input. -/
def fixedRestoresWrong : ChangeSpec := { name := "fixedRestores", fn := fun _ => fun
  | [d1, d2, d3, d4] => { results := [.lit (.bool false)], args := [d1, d2, d3, d4] }
  | _ => none }
def FixedRestoresWrongFalsely : Prop := fixedRestoresRow.holds Try.pinned (OpenSpec.ofChange fixedRestoresWrong)

/-- 'overdublaw05.FixedBack': WHATEVER THE INPUT: true; the input reads as it did. -/
def fixedBackSpec : ChangeSpec := { name := "fixedBack", fn := fun _ => fun
  | [d1, d2] => { results := [.lit (.bool true)], args := [d1, d2] }
  | _ => none }
def fixedBackRow : OpenClaim := { program := "ytchapaejdgnihaa", sum := "0d906f99d63f1de9c6b3647e39da770b6882e44958ec7bdfd50fac39b976fecb", func := "overdub/overdublaw05.FixedBack", spec := "fixedBack", unfollowed := true, recurses := true, apart := false }
def FixedBackSaid : Prop := fixedBackRow.holds Try.pinned (OpenSpec.ofChange fixedBackSpec)

/-- ITS FALSE NEIGHBOUR: 'it returns false'. Refute it at one input. -/
def fixedBackWrong : ChangeSpec := { name := "fixedBack", fn := fun _ => fun
  | [d1, d2] => { results := [.lit (.bool false)], args := [d1, d2] }
  | _ => none }
def FixedBackWrongFalsely : Prop := fixedBackRow.holds Try.pinned (OpenSpec.ofChange fixedBackWrong)

/- THE SECOND FORM. 'bulk': how many values and letters a reading holds, each counted each time it is reached (what is shared counts as often as it is met; a slice's spare places count too). A statement '..UptoSaid' is the law's where the arguments, and the package variables that the reading takes, are together of bulk at most 1048576: NARROWER than '..Said'. Prove '..Said' where nothing that the law and all that it calls make is longer than what came in: it says more and counts as full. Else prove '..UptoSaid'. A law counts once. -/
mutual
def uptoBulk {H : Type} : DataW H → Nat
  | .lit (.string bytes) => bytes.length + 1
  | .lit _ => 1
  | .nil => 1
  | .ptr d => uptoBulk d + 1
  | .slice elems spare => uptoBulkAll elems + uptoBulkAll spare + 1
  | .agg parts => uptoBulkAll parts + 1
  | .iface _ d => uptoBulk d + 1
  | .map entries => uptoBulkEntries entries + 1
  | .held _ => 1
def uptoBulkAll {H : Type} : List (DataW H) → Nat
  | [] => 0
  | d :: r => uptoBulk d + uptoBulkAll r
def uptoBulkEntries {H : Type} : List (Lit × DataW H) → Nat
  | [] => 0
  | x :: r => uptoBulkEntry x + uptoBulkEntries r
def uptoBulkEntry {H : Type} : Lit × DataW H → Nat
  | (.string bytes, d) => bytes.length + uptoBulk d + 1
  | (_, d) => uptoBulk d + 1
 end
def uptoSmall : (H : Type) → List (DataW H) → Bool := fun _ ds => decide (uptoBulkAll ds ≤ 1048576)
def OpenSpec.upto (s : _root_.Go.ChangeSpec) : _root_.Go.OpenSpec := { _root_.Go.OpenSpec.ofChange s with cond := some uptoSmall }

/-- 'overdublaw05.FixedSums', WHERE WHAT IT READS IS OF BULK AT MOST 1048576: true; the input reads as it did. -/
def fixedSumsUptoRow : OpenClaim := { program := "ytchapaejdgnihaa", sum := "0d906f99d63f1de9c6b3647e39da770b6882e44958ec7bdfd50fac39b976fecb", func := "overdub/overdublaw05.FixedSums", spec := "fixedSums", apart := false, narrowed := true }
def FixedSumsUptoSaid : Prop := fixedSumsUptoRow.holds Try.pinned (OpenSpec.upto fixedSumsSpec)

/-- 'overdublaw05.FixedResiduals', WHERE WHAT IT READS IS OF BULK AT MOST 1048576: true; the input reads as it did. -/
def fixedResidualsUptoRow : OpenClaim := { program := "ytchapaejdgnihaa", sum := "0d906f99d63f1de9c6b3647e39da770b6882e44958ec7bdfd50fac39b976fecb", func := "overdub/overdublaw05.FixedResiduals", spec := "fixedResiduals", apart := false, narrowed := true }
def FixedResidualsUptoSaid : Prop := fixedResidualsUptoRow.holds Try.pinned (OpenSpec.upto fixedResidualsSpec)

/-- 'overdublaw05.FixedPowers', WHERE WHAT IT READS IS OF BULK AT MOST 1048576: true; the input reads as it did. -/
def fixedPowersUptoRow : OpenClaim := { program := "ytchapaejdgnihaa", sum := "0d906f99d63f1de9c6b3647e39da770b6882e44958ec7bdfd50fac39b976fecb", func := "overdub/overdublaw05.FixedPowers", spec := "fixedPowers", unfollowed := true, recurses := true, apart := false, narrowed := true }
def FixedPowersUptoSaid : Prop := fixedPowersUptoRow.holds Try.pinned (OpenSpec.upto fixedPowersSpec)

/-- 'overdublaw05.FixedErrors', WHERE WHAT IT READS IS OF BULK AT MOST 1048576: true; the input reads as it did. -/
def fixedErrorsUptoRow : OpenClaim := { program := "ytchapaejdgnihaa", sum := "0d906f99d63f1de9c6b3647e39da770b6882e44958ec7bdfd50fac39b976fecb", func := "overdub/overdublaw05.FixedErrors", spec := "fixedErrors", unfollowed := true, recurses := true, apart := false, narrowed := true }
def FixedErrorsUptoSaid : Prop := fixedErrorsUptoRow.holds Try.pinned (OpenSpec.upto fixedErrorsSpec)

/-- 'overdublaw05.FixedRestores', WHERE WHAT IT READS IS OF BULK AT MOST 1048576: true; the input reads as it did. -/
def fixedRestoresUptoRow : OpenClaim := { program := "ytchapaejdgnihaa", sum := "0d906f99d63f1de9c6b3647e39da770b6882e44958ec7bdfd50fac39b976fecb", func := "overdub/overdublaw05.FixedRestores", spec := "fixedRestores", unfollowed := true, recurses := true, apart := false, narrowed := true }
def FixedRestoresUptoSaid : Prop := fixedRestoresUptoRow.holds Try.pinned (OpenSpec.upto fixedRestoresSpec)

/-- 'overdublaw05.FixedBack', WHERE WHAT IT READS IS OF BULK AT MOST 1048576: true; the input reads as it did. -/
def fixedBackUptoRow : OpenClaim := { program := "ytchapaejdgnihaa", sum := "0d906f99d63f1de9c6b3647e39da770b6882e44958ec7bdfd50fac39b976fecb", func := "overdub/overdublaw05.FixedBack", spec := "fixedBack", unfollowed := true, recurses := true, apart := false, narrowed := true }
def FixedBackUptoSaid : Prop := fixedBackUptoRow.holds Try.pinned (OpenSpec.upto fixedBackSpec)

end Rows
end Go.Proofs.Ytchapaejdgnihaa
