/-
  No cell of these rows narrows 'for every input' (looked for: loops, veiled, ifaces, maps, wideKeys, modest, calm, conditions, laid).
  DERIVED. THE GIVEN ROWS OF THIS SEAT. 7 by the template 'for every input the law returns true; each argument reads behind the call as it read before'; 0 by the template 'total and deterministic' (their statements: YtkcaigagilpomaaTotals.lean).
  GIVEN WITH THE SEED: the statements are not yours to turn. If you find one false, say at which input.
  Laid BY PROGRAM, IN A SANDBOX (cutbox-rows.mjs): the forced cells as the released guide's own fill.sh prints them over the translation 50dbf1e01dd74007… (all of the seat's roots in one cut). By AI agents, Wed Nov 11 2026. No macro, syntax, notation, axiom, sorry.
-/
import Derived.Test.YtkcaigagilpomaaChecked
import GoSem.Claim
import GoSem.ClaimJoined
import GoSem.ClaimMapViews
import Derived.JoinedTies
import Derived.KernelRfl
namespace Go.Proofs.Ytkcaigagilpomaa
/- THE CELL 'sum', in the pinned program and in every row, IS THE sha256 OF THE DUMP (.gsa) THAT YtkcaigagilpomaaProg.lean LOADS. Nothing in Lean hashes anything: it is a label: what it is worth is what the hold of that sum in a sandbox is worth. -/
noncomputable def Try.pinned : Pinned := { name := "ytkcaigagilpomaa", sum := "50dbf1e01dd74007e29d5ec5a254bb67de9738eb50da2e893a04575de22a4933", checked := Try.checked }
namespace Rows
def none {H : Type} : Left H := { results := [], args := [] }

/-- 'overdublaw07.LevinAutos': WHATEVER THE INPUT: true; the input reads as it did. -/
def levinAutosSpec : ChangeSpec := { name := "levinAutos", fn := fun _ => fun
  | [d1, d2, d3] => { results := [.lit (.bool true)], args := [d1, d2, d3] }
  | _ => none }
def levinAutosRow : OpenClaim := { program := "ytkcaigagilpomaa", sum := "50dbf1e01dd74007e29d5ec5a254bb67de9738eb50da2e893a04575de22a4933", func := "overdub/overdublaw07.LevinAutos", spec := "levinAutos", apart := false }
def LevinAutosSaid : Prop := levinAutosRow.holds Try.pinned (OpenSpec.ofChange levinAutosSpec)

/-- ITS FALSE NEIGHBOUR: 'it returns false'. Refute it at one input. -/
def levinAutosWrong : ChangeSpec := { name := "levinAutos", fn := fun _ => fun
  | [d1, d2, d3] => { results := [.lit (.bool false)], args := [d1, d2, d3] }
  | _ => none }
def LevinAutosWrongFalsely : Prop := levinAutosRow.holds Try.pinned (OpenSpec.ofChange levinAutosWrong)

/-- 'overdublaw07.LevinBounds': WHATEVER THE INPUT: true; the input reads as it did. -/
def levinBoundsSpec : ChangeSpec := { name := "levinBounds", fn := fun _ => fun
  | [d1, d2] => { results := [.lit (.bool true)], args := [d1, d2] }
  | _ => none }
def levinBoundsRow : OpenClaim := { program := "ytkcaigagilpomaa", sum := "50dbf1e01dd74007e29d5ec5a254bb67de9738eb50da2e893a04575de22a4933", func := "overdub/overdublaw07.LevinBounds", spec := "levinBounds", apart := false }
def LevinBoundsSaid : Prop := levinBoundsRow.holds Try.pinned (OpenSpec.ofChange levinBoundsSpec)

/-- ITS FALSE NEIGHBOUR: 'it returns false'. Refute it at one input. -/
def levinBoundsWrong : ChangeSpec := { name := "levinBounds", fn := fun _ => fun
  | [d1, d2] => { results := [.lit (.bool false)], args := [d1, d2] }
  | _ => none }
def LevinBoundsWrongFalsely : Prop := levinBoundsRow.holds Try.pinned (OpenSpec.ofChange levinBoundsWrong)

/-- 'overdublaw07.LevinScales': WHATEVER THE INPUT: true; the input reads as it did. -/
def levinScalesSpec : ChangeSpec := { name := "levinScales", fn := fun _ => fun
  | [d] => { results := [.lit (.bool true)], args := [d] }
  | _ => none }
def levinScalesRow : OpenClaim := { program := "ytkcaigagilpomaa", sum := "50dbf1e01dd74007e29d5ec5a254bb67de9738eb50da2e893a04575de22a4933", func := "overdub/overdublaw07.LevinScales", spec := "levinScales", apart := false }
def LevinScalesSaid : Prop := levinScalesRow.holds Try.pinned (OpenSpec.ofChange levinScalesSpec)

/-- ITS FALSE NEIGHBOUR: 'it returns false'. Refute it at one input. -/
def levinScalesWrong : ChangeSpec := { name := "levinScales", fn := fun _ => fun
  | [d] => { results := [.lit (.bool false)], args := [d] }
  | _ => none }
def LevinScalesWrongFalsely : Prop := levinScalesRow.holds Try.pinned (OpenSpec.ofChange levinScalesWrong)

/-- 'overdublaw07.LevinSigns': WHATEVER THE INPUT: true; the input reads as it did. -/
def levinSignsSpec : ChangeSpec := { name := "levinSigns", fn := fun _ => fun
  | [d1, d2] => { results := [.lit (.bool true)], args := [d1, d2] }
  | _ => none }
def levinSignsRow : OpenClaim := { program := "ytkcaigagilpomaa", sum := "50dbf1e01dd74007e29d5ec5a254bb67de9738eb50da2e893a04575de22a4933", func := "overdub/overdublaw07.LevinSigns", spec := "levinSigns", apart := false }
def LevinSignsSaid : Prop := levinSignsRow.holds Try.pinned (OpenSpec.ofChange levinSignsSpec)

/-- ITS FALSE NEIGHBOUR: 'it returns false'. Refute it at one input. -/
def levinSignsWrong : ChangeSpec := { name := "levinSigns", fn := fun _ => fun
  | [d1, d2] => { results := [.lit (.bool false)], args := [d1, d2] }
  | _ => none }
def LevinSignsWrongFalsely : Prop := levinSignsRow.holds Try.pinned (OpenSpec.ofChange levinSignsWrong)

/-- 'overdublaw07.LevinNone': WHATEVER THE INPUT: true; the input reads as it did. -/
def levinNoneSpec : ChangeSpec := { name := "levinNone", fn := fun _ => fun
  | [d1, d2, d3] => { results := [.lit (.bool true)], args := [d1, d2, d3] }
  | _ => none }
def levinNoneRow : OpenClaim := { program := "ytkcaigagilpomaa", sum := "50dbf1e01dd74007e29d5ec5a254bb67de9738eb50da2e893a04575de22a4933", func := "overdub/overdublaw07.LevinNone", spec := "levinNone", apart := false }
def LevinNoneSaid : Prop := levinNoneRow.holds Try.pinned (OpenSpec.ofChange levinNoneSpec)

/-- ITS FALSE NEIGHBOUR: 'it returns false'. Refute it at one input. -/
def levinNoneWrong : ChangeSpec := { name := "levinNone", fn := fun _ => fun
  | [d1, d2, d3] => { results := [.lit (.bool false)], args := [d1, d2, d3] }
  | _ => none }
def LevinNoneWrongFalsely : Prop := levinNoneRow.holds Try.pinned (OpenSpec.ofChange levinNoneWrong)

/-- 'overdublaw07.LevinCoefs': WHATEVER THE INPUT: true; the input reads as it did. -/
def levinCoefsSpec : ChangeSpec := { name := "levinCoefs", fn := fun _ => fun
  | [d1, d2, d3] => { results := [.lit (.bool true)], args := [d1, d2, d3] }
  | _ => none }
def levinCoefsRow : OpenClaim := { program := "ytkcaigagilpomaa", sum := "50dbf1e01dd74007e29d5ec5a254bb67de9738eb50da2e893a04575de22a4933", func := "overdub/overdublaw07.LevinCoefs", spec := "levinCoefs", apart := false }
def LevinCoefsSaid : Prop := levinCoefsRow.holds Try.pinned (OpenSpec.ofChange levinCoefsSpec)

/-- ITS FALSE NEIGHBOUR: 'it returns false'. Refute it at one input. -/
def levinCoefsWrong : ChangeSpec := { name := "levinCoefs", fn := fun _ => fun
  | [d1, d2, d3] => { results := [.lit (.bool false)], args := [d1, d2, d3] }
  | _ => none }
def LevinCoefsWrongFalsely : Prop := levinCoefsRow.holds Try.pinned (OpenSpec.ofChange levinCoefsWrong)

/-- 'overdublaw07.LevinSmooth': WHATEVER THE INPUT: true; the input reads as it did. -/
def levinSmoothSpec : ChangeSpec := { name := "levinSmooth", fn := fun _ => fun
  | [d1, d2, d3] => { results := [.lit (.bool true)], args := [d1, d2, d3] }
  | _ => none }
def levinSmoothRow : OpenClaim := { program := "ytkcaigagilpomaa", sum := "50dbf1e01dd74007e29d5ec5a254bb67de9738eb50da2e893a04575de22a4933", func := "overdub/overdublaw07.LevinSmooth", spec := "levinSmooth", apart := false }
def LevinSmoothSaid : Prop := levinSmoothRow.holds Try.pinned (OpenSpec.ofChange levinSmoothSpec)

/-- ITS FALSE NEIGHBOUR: 'it returns false'. Refute it at one input. -/
def levinSmoothWrong : ChangeSpec := { name := "levinSmooth", fn := fun _ => fun
  | [d1, d2, d3] => { results := [.lit (.bool false)], args := [d1, d2, d3] }
  | _ => none }
def LevinSmoothWrongFalsely : Prop := levinSmoothRow.holds Try.pinned (OpenSpec.ofChange levinSmoothWrong)

/- THE SECOND FORM. 'bulk': how many values and letters a reading holds, each counted each time it is reached (what is shared counts as often as it is met; a slice's spare places count too). A statement '..UptoSaid' is the law's where the arguments, and the package variables that the reading takes, are together of bulk at most 1048576: NARROWER than '..Said'. Prove '..Said' where nothing that the law and all that it calls make is longer than what came in: it says more and counts as full. Else prove '..UptoSaid'. A law counts once. -/
mutual
def uptoBulk {H : Type} : DataW H → Nat
  | .lit (.string bytes) => bytes.length + 1
  | .lit _ => 1
  | .nil => 1
  | .ptr d => uptoBulk d + 1
  | .slice elems spare => uptoBulkAll elems + uptoBulkAll spare + 1
  | .agg parts => uptoBulkAll parts + 1
  | .iface _ d => uptoBulk d + 1
  | .map entries => uptoBulkEntries entries + 1
  | .held _ => 1
def uptoBulkAll {H : Type} : List (DataW H) → Nat
  | [] => 0
  | d :: r => uptoBulk d + uptoBulkAll r
def uptoBulkEntries {H : Type} : List (Lit × DataW H) → Nat
  | [] => 0
  | x :: r => uptoBulkEntry x + uptoBulkEntries r
def uptoBulkEntry {H : Type} : Lit × DataW H → Nat
  | (.string bytes, d) => bytes.length + uptoBulk d + 1
  | (_, d) => uptoBulk d + 1
 end
def uptoSmall : (H : Type) → List (DataW H) → Bool := fun _ ds => decide (uptoBulkAll ds ≤ 1048576)
def OpenSpec.upto (s : _root_.Go.ChangeSpec) : _root_.Go.OpenSpec := { _root_.Go.OpenSpec.ofChange s with cond := some uptoSmall }

/-- 'overdublaw07.LevinAutos', WHERE WHAT IT READS IS OF BULK AT MOST 1048576: true; the input reads as it did. -/
def levinAutosUptoRow : OpenClaim := { program := "ytkcaigagilpomaa", sum := "50dbf1e01dd74007e29d5ec5a254bb67de9738eb50da2e893a04575de22a4933", func := "overdub/overdublaw07.LevinAutos", spec := "levinAutos", apart := false, narrowed := true }
def LevinAutosUptoSaid : Prop := levinAutosUptoRow.holds Try.pinned (OpenSpec.upto levinAutosSpec)

/-- 'overdublaw07.LevinBounds', WHERE WHAT IT READS IS OF BULK AT MOST 1048576: true; the input reads as it did. -/
def levinBoundsUptoRow : OpenClaim := { program := "ytkcaigagilpomaa", sum := "50dbf1e01dd74007e29d5ec5a254bb67de9738eb50da2e893a04575de22a4933", func := "overdub/overdublaw07.LevinBounds", spec := "levinBounds", apart := false, narrowed := true }
def LevinBoundsUptoSaid : Prop := levinBoundsUptoRow.holds Try.pinned (OpenSpec.upto levinBoundsSpec)

/-- 'overdublaw07.LevinScales', WHERE WHAT IT READS IS OF BULK AT MOST 1048576: true; the input reads as it did. -/
def levinScalesUptoRow : OpenClaim := { program := "ytkcaigagilpomaa", sum := "50dbf1e01dd74007e29d5ec5a254bb67de9738eb50da2e893a04575de22a4933", func := "overdub/overdublaw07.LevinScales", spec := "levinScales", apart := false, narrowed := true }
def LevinScalesUptoSaid : Prop := levinScalesUptoRow.holds Try.pinned (OpenSpec.upto levinScalesSpec)

/-- 'overdublaw07.LevinSigns', WHERE WHAT IT READS IS OF BULK AT MOST 1048576: true; the input reads as it did. -/
def levinSignsUptoRow : OpenClaim := { program := "ytkcaigagilpomaa", sum := "50dbf1e01dd74007e29d5ec5a254bb67de9738eb50da2e893a04575de22a4933", func := "overdub/overdublaw07.LevinSigns", spec := "levinSigns", apart := false, narrowed := true }
def LevinSignsUptoSaid : Prop := levinSignsUptoRow.holds Try.pinned (OpenSpec.upto levinSignsSpec)

/-- 'overdublaw07.LevinNone', WHERE WHAT IT READS IS OF BULK AT MOST 1048576: true; the input reads as it did. -/
def levinNoneUptoRow : OpenClaim := { program := "ytkcaigagilpomaa", sum := "50dbf1e01dd74007e29d5ec5a254bb67de9738eb50da2e893a04575de22a4933", func := "overdub/overdublaw07.LevinNone", spec := "levinNone", apart := false, narrowed := true }
def LevinNoneUptoSaid : Prop := levinNoneUptoRow.holds Try.pinned (OpenSpec.upto levinNoneSpec)

/-- 'overdublaw07.LevinCoefs', WHERE WHAT IT READS IS OF BULK AT MOST 1048576: true; the input reads as it did. -/
def levinCoefsUptoRow : OpenClaim := { program := "ytkcaigagilpomaa", sum := "50dbf1e01dd74007e29d5ec5a254bb67de9738eb50da2e893a04575de22a4933", func := "overdub/overdublaw07.LevinCoefs", spec := "levinCoefs", apart := false, narrowed := true }
def LevinCoefsUptoSaid : Prop := levinCoefsUptoRow.holds Try.pinned (OpenSpec.upto levinCoefsSpec)

/-- 'overdublaw07.LevinSmooth', WHERE WHAT IT READS IS OF BULK AT MOST 1048576: true; the input reads as it did. -/
def levinSmoothUptoRow : OpenClaim := { program := "ytkcaigagilpomaa", sum := "50dbf1e01dd74007e29d5ec5a254bb67de9738eb50da2e893a04575de22a4933", func := "overdub/overdublaw07.LevinSmooth", spec := "levinSmooth", apart := false, narrowed := true }
def LevinSmoothUptoSaid : Prop := levinSmoothUptoRow.holds Try.pinned (OpenSpec.upto levinSmoothSpec)

end Rows
end Go.Proofs.Ytkcaigagilpomaa
