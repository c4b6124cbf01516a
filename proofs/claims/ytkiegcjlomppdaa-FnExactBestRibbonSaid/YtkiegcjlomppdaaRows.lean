/-
  No cell of these rows narrows 'for every input' (looked for: loops, veiled, ifaces, maps, wideKeys, modest, calm, conditions, laid).
  DERIVED. THE GIVEN ROWS OF THIS SEAT. 11 by the template 'for every input the law returns true; each argument reads behind the call as it read before'; 0 by the template 'total and deterministic' (their statements: YtkiegcjlomppdaaTotals.lean).
  GIVEN WITH THE SEED: the statements are not yours to turn. If you find one false, say at which input.
  Laid BY PROGRAM, IN A SANDBOX (cutbox-rows.mjs): the forced cells as the released guide's own fill.sh prints them over the translation 464d682572737826… (all of the seat's roots in one cut). By AI agents, Wed Nov 11 2026. No macro, syntax, notation, axiom, sorry.
-/
import Derived.Test.YtkiegcjlomppdaaChecked
import GoSem.Claim
import GoSem.ClaimJoined
import GoSem.ClaimMapViews
import Derived.JoinedTies
import Derived.KernelRfl
namespace Go.Proofs.Ytkiegcjlomppdaa
/- THE CELL 'sum', in the pinned program and in every row, IS THE sha256 OF THE DUMP (.gsa) THAT YtkiegcjlomppdaaProg.lean LOADS. Nothing in Lean hashes anything: it is a label: what it is worth is what the hold of that sum in a sandbox is worth. -/
noncomputable def Try.pinned : Pinned := { name := "ytkiegcjlomppdaa", sum := "464d6825727378263774171760c45e09537977996b56e1abd6b5cd694d8f6ab5", checked := Try.checked }
namespace Rows
def none {H : Type} : Left H := { results := [], args := [] }

/-- 'laws.FnExactValidRibbon': WHATEVER THE INPUT: true; the input reads as it did. -/
def fnExactValidRibbonSpec : ChangeSpec := { name := "fnExactValidRibbon", fn := fun _ => fun
  | [d] => { results := [.lit (.bool true)], args := [d] }
  | _ => none }
def fnExactValidRibbonRow : OpenClaim := { program := "ytkiegcjlomppdaa", sum := "464d6825727378263774171760c45e09537977996b56e1abd6b5cd694d8f6ab5", func := "loop.example/g01045/laws.FnExactValidRibbon", spec := "fnExactValidRibbon", apart := false }
def FnExactValidRibbonSaid : Prop := fnExactValidRibbonRow.holds Try.pinned (OpenSpec.ofChange fnExactValidRibbonSpec)

/-- ITS FALSE NEIGHBOUR: 'it returns false'. Refute it at one input. -/
def fnExactValidRibbonWrong : ChangeSpec := { name := "fnExactValidRibbon", fn := fun _ => fun
  | [d] => { results := [.lit (.bool false)], args := [d] }
  | _ => none }
def FnExactValidRibbonWrongFalsely : Prop := fnExactValidRibbonRow.holds Try.pinned (OpenSpec.ofChange fnExactValidRibbonWrong)

/-- 'laws.FnExactColourRuns': WHATEVER THE INPUT: true; the input reads as it did. -/
def fnExactColourRunsSpec : ChangeSpec := { name := "fnExactColourRuns", fn := fun _ => fun
  | [d] => { results := [.lit (.bool true)], args := [d] }
  | _ => none }
def fnExactColourRunsRow : OpenClaim := { program := "ytkiegcjlomppdaa", sum := "464d6825727378263774171760c45e09537977996b56e1abd6b5cd694d8f6ab5", func := "loop.example/g01045/laws.FnExactColourRuns", spec := "fnExactColourRuns", apart := false }
def FnExactColourRunsSaid : Prop := fnExactColourRunsRow.holds Try.pinned (OpenSpec.ofChange fnExactColourRunsSpec)

/-- ITS FALSE NEIGHBOUR: 'it returns false'. Refute it at one input. -/
def fnExactColourRunsWrong : ChangeSpec := { name := "fnExactColourRuns", fn := fun _ => fun
  | [d] => { results := [.lit (.bool false)], args := [d] }
  | _ => none }
def FnExactColourRunsWrongFalsely : Prop := fnExactColourRunsRow.holds Try.pinned (OpenSpec.ofChange fnExactColourRunsWrong)

/-- 'laws.FnExactSpotAt': WHATEVER THE INPUT: true; the input reads as it did. -/
def fnExactSpotAtSpec : ChangeSpec := { name := "fnExactSpotAt", fn := fun _ => fun
  | [d1, d2] => { results := [.lit (.bool true)], args := [d1, d2] }
  | _ => none }
def fnExactSpotAtRow : OpenClaim := { program := "ytkiegcjlomppdaa", sum := "464d6825727378263774171760c45e09537977996b56e1abd6b5cd694d8f6ab5", func := "loop.example/g01045/laws.FnExactSpotAt", spec := "fnExactSpotAt", apart := false }
def FnExactSpotAtSaid : Prop := fnExactSpotAtRow.holds Try.pinned (OpenSpec.ofChange fnExactSpotAtSpec)

/-- ITS FALSE NEIGHBOUR: 'it returns false'. Refute it at one input. -/
def fnExactSpotAtWrong : ChangeSpec := { name := "fnExactSpotAt", fn := fun _ => fun
  | [d1, d2] => { results := [.lit (.bool false)], args := [d1, d2] }
  | _ => none }
def FnExactSpotAtWrongFalsely : Prop := fnExactSpotAtRow.holds Try.pinned (OpenSpec.ofChange fnExactSpotAtWrong)

/-- 'laws.FnExactTurnsIn': WHATEVER THE INPUT: true; the input reads as it did. -/
def fnExactTurnsInSpec : ChangeSpec := { name := "fnExactTurnsIn", fn := fun _ => fun
  | [d1, d2] => { results := [.lit (.bool true)], args := [d1, d2] }
  | _ => none }
def fnExactTurnsInRow : OpenClaim := { program := "ytkiegcjlomppdaa", sum := "464d6825727378263774171760c45e09537977996b56e1abd6b5cd694d8f6ab5", func := "loop.example/g01045/laws.FnExactTurnsIn", spec := "fnExactTurnsIn", apart := false }
def FnExactTurnsInSaid : Prop := fnExactTurnsInRow.holds Try.pinned (OpenSpec.ofChange fnExactTurnsInSpec)

/-- ITS FALSE NEIGHBOUR: 'it returns false'. Refute it at one input. -/
def fnExactTurnsInWrong : ChangeSpec := { name := "fnExactTurnsIn", fn := fun _ => fun
  | [d1, d2] => { results := [.lit (.bool false)], args := [d1, d2] }
  | _ => none }
def FnExactTurnsInWrongFalsely : Prop := fnExactTurnsInRow.holds Try.pinned (OpenSpec.ofChange fnExactTurnsInWrong)

/-- 'laws.FnExactShadeAt': WHATEVER THE INPUT: true; the input reads as it did. -/
def fnExactShadeAtSpec : ChangeSpec := { name := "fnExactShadeAt", fn := fun _ => fun
  | [d1, d2] => { results := [.lit (.bool true)], args := [d1, d2] }
  | _ => none }
def fnExactShadeAtRow : OpenClaim := { program := "ytkiegcjlomppdaa", sum := "464d6825727378263774171760c45e09537977996b56e1abd6b5cd694d8f6ab5", func := "loop.example/g01045/laws.FnExactShadeAt", spec := "fnExactShadeAt", apart := false }
def FnExactShadeAtSaid : Prop := fnExactShadeAtRow.holds Try.pinned (OpenSpec.ofChange fnExactShadeAtSpec)

/-- ITS FALSE NEIGHBOUR: 'it returns false'. Refute it at one input. -/
def fnExactShadeAtWrong : ChangeSpec := { name := "fnExactShadeAt", fn := fun _ => fun
  | [d1, d2] => { results := [.lit (.bool false)], args := [d1, d2] }
  | _ => none }
def FnExactShadeAtWrongFalsely : Prop := fnExactShadeAtRow.holds Try.pinned (OpenSpec.ofChange fnExactShadeAtWrong)

/-- 'laws.FnExactStrokesUntil': WHATEVER THE INPUT: true; the input reads as it did. -/
def fnExactStrokesUntilSpec : ChangeSpec := { name := "fnExactStrokesUntil", fn := fun _ => fun
  | [d1, d2] => { results := [.lit (.bool true)], args := [d1, d2] }
  | _ => none }
def fnExactStrokesUntilRow : OpenClaim := { program := "ytkiegcjlomppdaa", sum := "464d6825727378263774171760c45e09537977996b56e1abd6b5cd694d8f6ab5", func := "loop.example/g01045/laws.FnExactStrokesUntil", spec := "fnExactStrokesUntil", apart := false }
def FnExactStrokesUntilSaid : Prop := fnExactStrokesUntilRow.holds Try.pinned (OpenSpec.ofChange fnExactStrokesUntilSpec)

/-- ITS FALSE NEIGHBOUR: 'it returns false'. Refute it at one input. -/
def fnExactStrokesUntilWrong : ChangeSpec := { name := "fnExactStrokesUntil", fn := fun _ => fun
  | [d1, d2] => { results := [.lit (.bool false)], args := [d1, d2] }
  | _ => none }
def FnExactStrokesUntilWrongFalsely : Prop := fnExactStrokesUntilRow.holds Try.pinned (OpenSpec.ofChange fnExactStrokesUntilWrong)

/-- 'laws.FnExactUsesOf': WHATEVER THE INPUT: true; the input reads as it did. -/
def fnExactUsesOfSpec : ChangeSpec := { name := "fnExactUsesOf", fn := fun _ => fun
  | [d1, d2] => { results := [.lit (.bool true)], args := [d1, d2] }
  | _ => none }
def fnExactUsesOfRow : OpenClaim := { program := "ytkiegcjlomppdaa", sum := "464d6825727378263774171760c45e09537977996b56e1abd6b5cd694d8f6ab5", func := "loop.example/g01045/laws.FnExactUsesOf", spec := "fnExactUsesOf", apart := false }
def FnExactUsesOfSaid : Prop := fnExactUsesOfRow.holds Try.pinned (OpenSpec.ofChange fnExactUsesOfSpec)

/-- ITS FALSE NEIGHBOUR: 'it returns false'. Refute it at one input. -/
def fnExactUsesOfWrong : ChangeSpec := { name := "fnExactUsesOf", fn := fun _ => fun
  | [d1, d2] => { results := [.lit (.bool false)], args := [d1, d2] }
  | _ => none }
def FnExactUsesOfWrongFalsely : Prop := fnExactUsesOfRow.holds Try.pinned (OpenSpec.ofChange fnExactUsesOfWrong)

/-- 'laws.FnExactRibbonsFor': WHATEVER THE INPUT: true; the input reads as it did. -/
def fnExactRibbonsForSpec : ChangeSpec := { name := "fnExactRibbonsFor", fn := fun _ => fun
  | [d1, d2, d3] => { results := [.lit (.bool true)], args := [d1, d2, d3] }
  | _ => none }
def fnExactRibbonsForRow : OpenClaim := { program := "ytkiegcjlomppdaa", sum := "464d6825727378263774171760c45e09537977996b56e1abd6b5cd694d8f6ab5", func := "loop.example/g01045/laws.FnExactRibbonsFor", spec := "fnExactRibbonsFor", apart := false }
def FnExactRibbonsForSaid : Prop := fnExactRibbonsForRow.holds Try.pinned (OpenSpec.ofChange fnExactRibbonsForSpec)

/-- ITS FALSE NEIGHBOUR: 'it returns false'. Refute it at one input. -/
def fnExactRibbonsForWrong : ChangeSpec := { name := "fnExactRibbonsFor", fn := fun _ => fun
  | [d1, d2, d3] => { results := [.lit (.bool false)], args := [d1, d2, d3] }
  | _ => none }
def FnExactRibbonsForWrongFalsely : Prop := fnExactRibbonsForRow.holds Try.pinned (OpenSpec.ofChange fnExactRibbonsForWrong)

/-- 'laws.FnExactPalestLetter': WHATEVER THE INPUT: true; the input reads as it did. -/
def fnExactPalestLetterSpec : ChangeSpec := { name := "fnExactPalestLetter", fn := fun _ => fun
  | [d1, d2, d3, d4] => { results := [.lit (.bool true)], args := [d1, d2, d3, d4] }
  | _ => none }
def fnExactPalestLetterRow : OpenClaim := { program := "ytkiegcjlomppdaa", sum := "464d6825727378263774171760c45e09537977996b56e1abd6b5cd694d8f6ab5", func := "loop.example/g01045/laws.FnExactPalestLetter", spec := "fnExactPalestLetter", apart := false }
def FnExactPalestLetterSaid : Prop := fnExactPalestLetterRow.holds Try.pinned (OpenSpec.ofChange fnExactPalestLetterSpec)

/-- ITS FALSE NEIGHBOUR: 'it returns false'. Refute it at one input. -/
def fnExactPalestLetterWrong : ChangeSpec := { name := "fnExactPalestLetter", fn := fun _ => fun
  | [d1, d2, d3, d4] => { results := [.lit (.bool false)], args := [d1, d2, d3, d4] }
  | _ => none }
def FnExactPalestLetterWrongFalsely : Prop := fnExactPalestLetterRow.holds Try.pinned (OpenSpec.ofChange fnExactPalestLetterWrong)

/-- 'laws.FnExactShadesOf': WHATEVER THE INPUT: true; the input reads as it did. -/
def fnExactShadesOfSpec : ChangeSpec := { name := "fnExactShadesOf", fn := fun _ => fun
  | [d1, d2, d3] => { results := [.lit (.bool true)], args := [d1, d2, d3] }
  | _ => none }
def fnExactShadesOfRow : OpenClaim := { program := "ytkiegcjlomppdaa", sum := "464d6825727378263774171760c45e09537977996b56e1abd6b5cd694d8f6ab5", func := "loop.example/g01045/laws.FnExactShadesOf", spec := "fnExactShadesOf", apart := false }
def FnExactShadesOfSaid : Prop := fnExactShadesOfRow.holds Try.pinned (OpenSpec.ofChange fnExactShadesOfSpec)

/-- ITS FALSE NEIGHBOUR: 'it returns false'. Refute it at one input. -/
def fnExactShadesOfWrong : ChangeSpec := { name := "fnExactShadesOf", fn := fun _ => fun
  | [d1, d2, d3] => { results := [.lit (.bool false)], args := [d1, d2, d3] }
  | _ => none }
def FnExactShadesOfWrongFalsely : Prop := fnExactShadesOfRow.holds Try.pinned (OpenSpec.ofChange fnExactShadesOfWrong)

/-- 'laws.FnExactBestRibbon': WHATEVER THE INPUT: true; the input reads as it did. -/
def fnExactBestRibbonSpec : ChangeSpec := { name := "fnExactBestRibbon", fn := fun _ => fun
  | [d1, d2, d3, d4] => { results := [.lit (.bool true)], args := [d1, d2, d3, d4] }
  | _ => none }
def fnExactBestRibbonRow : OpenClaim := { program := "ytkiegcjlomppdaa", sum := "464d6825727378263774171760c45e09537977996b56e1abd6b5cd694d8f6ab5", func := "loop.example/g01045/laws.FnExactBestRibbon", spec := "fnExactBestRibbon", apart := false }
def FnExactBestRibbonSaid : Prop := fnExactBestRibbonRow.holds Try.pinned (OpenSpec.ofChange fnExactBestRibbonSpec)

/-- ITS FALSE NEIGHBOUR: 'it returns false'. Refute it at one input. -/
def fnExactBestRibbonWrong : ChangeSpec := { name := "fnExactBestRibbon", fn := fun _ => fun
  | [d1, d2, d3, d4] => { results := [.lit (.bool false)], args := [d1, d2, d3, d4] }
  | _ => none }
def FnExactBestRibbonWrongFalsely : Prop := fnExactBestRibbonRow.holds Try.pinned (OpenSpec.ofChange fnExactBestRibbonWrong)

/- THE SECOND FORM. 'bulk': how many values and letters a reading holds, each counted each time it is reached (what is shared counts as often as it is met; a slice's spare places count too). A statement '..UptoSaid' is the law's where the arguments, and the package variables that the reading takes, are together of bulk at most 1048576: NARROWER than '..Said'. Prove '..Said' where nothing that the law and all that it calls make is longer than what came in: it says more and counts as full. Else prove '..UptoSaid'. A law counts once. -/
mutual
def uptoBulk {H : Type} : DataW H → Nat
  | .lit (.string bytes) => bytes.length + 1
  | .lit _ => 1
  | .nil => 1
  | .ptr d => uptoBulk d + 1
  | .slice elems spare => uptoBulkAll elems + uptoBulkAll spare + 1
  | .agg parts => uptoBulkAll parts + 1
  | .iface _ d => uptoBulk d + 1
  | .map entries => uptoBulkEntries entries + 1
  | .held _ => 1
def uptoBulkAll {H : Type} : List (DataW H) → Nat
  | [] => 0
  | d :: r => uptoBulk d + uptoBulkAll r
def uptoBulkEntries {H : Type} : List (Lit × DataW H) → Nat
  | [] => 0
  | x :: r => uptoBulkEntry x + uptoBulkEntries r
def uptoBulkEntry {H : Type} : Lit × DataW H → Nat
  | (.string bytes, d) => bytes.length + uptoBulk d + 1
  | (_, d) => uptoBulk d + 1
 end
def uptoSmall : (H : Type) → List (DataW H) → Bool := fun _ ds => decide (uptoBulkAll ds ≤ 1048576)
def OpenSpec.upto (s : _root_.Go.ChangeSpec) : _root_.Go.OpenSpec := { _root_.Go.OpenSpec.ofChange s with cond := some uptoSmall }

/-- 'laws.FnExactValidRibbon', WHERE WHAT IT READS IS OF BULK AT MOST 1048576: true; the input reads as it did. -/
def fnExactValidRibbonUptoRow : OpenClaim := { program := "ytkiegcjlomppdaa", sum := "464d6825727378263774171760c45e09537977996b56e1abd6b5cd694d8f6ab5", func := "loop.example/g01045/laws.FnExactValidRibbon", spec := "fnExactValidRibbon", apart := false, narrowed := true }
def FnExactValidRibbonUptoSaid : Prop := fnExactValidRibbonUptoRow.holds Try.pinned (OpenSpec.upto fnExactValidRibbonSpec)

/-- 'laws.FnExactColourRuns', WHERE WHAT IT READS IS OF BULK AT MOST 1048576: true; the input reads as it did. -/
def fnExactColourRunsUptoRow : OpenClaim := { program := "ytkiegcjlomppdaa", sum := "464d6825727378263774171760c45e09537977996b56e1abd6b5cd694d8f6ab5", func := "loop.example/g01045/laws.FnExactColourRuns", spec := "fnExactColourRuns", apart := false, narrowed := true }
def FnExactColourRunsUptoSaid : Prop := fnExactColourRunsUptoRow.holds Try.pinned (OpenSpec.upto fnExactColourRunsSpec)

/-- 'laws.FnExactSpotAt', WHERE WHAT IT READS IS OF BULK AT MOST 1048576: true; the input reads as it did. -/
def fnExactSpotAtUptoRow : OpenClaim := { program := "ytkiegcjlomppdaa", sum := "464d6825727378263774171760c45e09537977996b56e1abd6b5cd694d8f6ab5", func := "loop.example/g01045/laws.FnExactSpotAt", spec := "fnExactSpotAt", apart := false, narrowed := true }
def FnExactSpotAtUptoSaid : Prop := fnExactSpotAtUptoRow.holds Try.pinned (OpenSpec.upto fnExactSpotAtSpec)

/-- 'laws.FnExactTurnsIn', WHERE WHAT IT READS IS OF BULK AT MOST 1048576: true; the input reads as it did. -/
def fnExactTurnsInUptoRow : OpenClaim := { program := "ytkiegcjlomppdaa", sum := "464d6825727378263774171760c45e09537977996b56e1abd6b5cd694d8f6ab5", func := "loop.example/g01045/laws.FnExactTurnsIn", spec := "fnExactTurnsIn", apart := false, narrowed := true }
def FnExactTurnsInUptoSaid : Prop := fnExactTurnsInUptoRow.holds Try.pinned (OpenSpec.upto fnExactTurnsInSpec)

/-- 'laws.FnExactShadeAt', WHERE WHAT IT READS IS OF BULK AT MOST 1048576: true; the input reads as it did. -/
def fnExactShadeAtUptoRow : OpenClaim := { program := "ytkiegcjlomppdaa", sum := "464d6825727378263774171760c45e09537977996b56e1abd6b5cd694d8f6ab5", func := "loop.example/g01045/laws.FnExactShadeAt", spec := "fnExactShadeAt", apart := false, narrowed := true }
def FnExactShadeAtUptoSaid : Prop := fnExactShadeAtUptoRow.holds Try.pinned (OpenSpec.upto fnExactShadeAtSpec)

/-- 'laws.FnExactStrokesUntil', WHERE WHAT IT READS IS OF BULK AT MOST 1048576: true; the input reads as it did. -/
def fnExactStrokesUntilUptoRow : OpenClaim := { program := "ytkiegcjlomppdaa", sum := "464d6825727378263774171760c45e09537977996b56e1abd6b5cd694d8f6ab5", func := "loop.example/g01045/laws.FnExactStrokesUntil", spec := "fnExactStrokesUntil", apart := false, narrowed := true }
def FnExactStrokesUntilUptoSaid : Prop := fnExactStrokesUntilUptoRow.holds Try.pinned (OpenSpec.upto fnExactStrokesUntilSpec)

/-- 'laws.FnExactUsesOf', WHERE WHAT IT READS IS OF BULK AT MOST 1048576: true; the input reads as it did. -/
def fnExactUsesOfUptoRow : OpenClaim := { program := "ytkiegcjlomppdaa", sum := "464d6825727378263774171760c45e09537977996b56e1abd6b5cd694d8f6ab5", func := "loop.example/g01045/laws.FnExactUsesOf", spec := "fnExactUsesOf", apart := false, narrowed := true }
def FnExactUsesOfUptoSaid : Prop := fnExactUsesOfUptoRow.holds Try.pinned (OpenSpec.upto fnExactUsesOfSpec)

/-- 'laws.FnExactRibbonsFor', WHERE WHAT IT READS IS OF BULK AT MOST 1048576: true; the input reads as it did. -/
def fnExactRibbonsForUptoRow : OpenClaim := { program := "ytkiegcjlomppdaa", sum := "464d6825727378263774171760c45e09537977996b56e1abd6b5cd694d8f6ab5", func := "loop.example/g01045/laws.FnExactRibbonsFor", spec := "fnExactRibbonsFor", apart := false, narrowed := true }
def FnExactRibbonsForUptoSaid : Prop := fnExactRibbonsForUptoRow.holds Try.pinned (OpenSpec.upto fnExactRibbonsForSpec)

/-- 'laws.FnExactPalestLetter', WHERE WHAT IT READS IS OF BULK AT MOST 1048576: true; the input reads as it did. -/
def fnExactPalestLetterUptoRow : OpenClaim := { program := "ytkiegcjlomppdaa", sum := "464d6825727378263774171760c45e09537977996b56e1abd6b5cd694d8f6ab5", func := "loop.example/g01045/laws.FnExactPalestLetter", spec := "fnExactPalestLetter", apart := false, narrowed := true }
def FnExactPalestLetterUptoSaid : Prop := fnExactPalestLetterUptoRow.holds Try.pinned (OpenSpec.upto fnExactPalestLetterSpec)

/-- 'laws.FnExactShadesOf', WHERE WHAT IT READS IS OF BULK AT MOST 1048576: true; the input reads as it did. -/
def fnExactShadesOfUptoRow : OpenClaim := { program := "ytkiegcjlomppdaa", sum := "464d6825727378263774171760c45e09537977996b56e1abd6b5cd694d8f6ab5", func := "loop.example/g01045/laws.FnExactShadesOf", spec := "fnExactShadesOf", apart := false, narrowed := true }
def FnExactShadesOfUptoSaid : Prop := fnExactShadesOfUptoRow.holds Try.pinned (OpenSpec.upto fnExactShadesOfSpec)

/-- 'laws.FnExactBestRibbon', WHERE WHAT IT READS IS OF BULK AT MOST 1048576: true; the input reads as it did. -/
def fnExactBestRibbonUptoRow : OpenClaim := { program := "ytkiegcjlomppdaa", sum := "464d6825727378263774171760c45e09537977996b56e1abd6b5cd694d8f6ab5", func := "loop.example/g01045/laws.FnExactBestRibbon", spec := "fnExactBestRibbon", apart := false, narrowed := true }
def FnExactBestRibbonUptoSaid : Prop := fnExactBestRibbonUptoRow.holds Try.pinned (OpenSpec.upto fnExactBestRibbonSpec)

end Rows
end Go.Proofs.Ytkiegcjlomppdaa
