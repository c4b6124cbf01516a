/-
  No cell of these rows narrows 'for every input' (looked for: loops, veiled, ifaces, maps, wideKeys, modest, calm, conditions, laid).
  DERIVED. THE GIVEN ROWS OF THIS SEAT. 6 by the template 'for every input the law returns true; each argument reads behind the call as it read before'; 0 by the template 'total and deterministic' (their statements: YtkimlkpepgeolaaTotals.lean).
  GIVEN WITH THE SEED: the statements are not yours to turn. If you find one false, say at which input.
  Laid BY PROGRAM, IN A SANDBOX (cutbox-rows.mjs): the forced cells as the released guide's own fill.sh prints them over the translation 63d746273c84c6c2… (all of the seat's roots in one cut). By AI agents, Wed Nov 11 2026. No macro, syntax, notation, axiom, sorry.
-/
import Derived.Test.YtkimlkpepgeolaaChecked
import GoSem.Claim
import GoSem.ClaimJoined
import GoSem.ClaimMapViews
import Derived.JoinedTies
import Derived.KernelRfl
namespace Go.Proofs.Ytkimlkpepgeolaa
/- THE CELL 'sum', in the pinned program and in every row, IS THE sha256 OF THE DUMP (.gsa) THAT YtkimlkpepgeolaaProg.lean LOADS. Nothing in Lean hashes anything: it is a label: what it is worth is what the hold of that sum in a sandbox is worth. -/
noncomputable def Try.pinned : Pinned := { name := "ytkimlkpepgeolaa", sum := "63d746273c84c6c2dc0cd7d3946622c06584b5950dbbb3c903cba10d1029e347", checked := Try.checked }
namespace Rows
def none {H : Type} : Left H := { results := [], args := [] }

/-- 'laws.FnExactValidRibbon': WHATEVER THE INPUT: true; the input reads as it did. -/
def fnExactValidRibbonSpec : ChangeSpec := { name := "fnExactValidRibbon", fn := fun _ => fun
  | [d] => { results := [.lit (.bool true)], args := [d] }
  | _ => none }
def fnExactValidRibbonRow : OpenClaim := { program := "ytkimlkpepgeolaa", sum := "63d746273c84c6c2dc0cd7d3946622c06584b5950dbbb3c903cba10d1029e347", func := "loop.example/g01045/laws.FnExactValidRibbon", spec := "fnExactValidRibbon", apart := false }
def FnExactValidRibbonSaid : Prop := fnExactValidRibbonRow.holds Try.pinned (OpenSpec.ofChange fnExactValidRibbonSpec)

/-- ITS FALSE NEIGHBOUR: 'it returns false'. Refute it at one input. -/
def fnExactValidRibbonWrong : ChangeSpec := { name := "fnExactValidRibbon", fn := fun _ => fun
  | [d] => { results := [.lit (.bool false)], args := [d] }
  | _ => none }
def FnExactValidRibbonWrongFalsely : Prop := fnExactValidRibbonRow.holds Try.pinned (OpenSpec.ofChange fnExactValidRibbonWrong)

/-- 'laws.FnExactColourRuns': WHATEVER THE INPUT: true; the input reads as it did. -/
def fnExactColourRunsSpec : ChangeSpec := { name := "fnExactColourRuns", fn := fun _ => fun
  | [d] => { results := [.lit (.bool true)], args := [d] }
  | _ => none }
def fnExactColourRunsRow : OpenClaim := { program := "ytkimlkpepgeolaa", sum := "63d746273c84c6c2dc0cd7d3946622c06584b5950dbbb3c903cba10d1029e347", func := "loop.example/g01045/laws.FnExactColourRuns", spec := "fnExactColourRuns", apart := false }
def FnExactColourRunsSaid : Prop := fnExactColourRunsRow.holds Try.pinned (OpenSpec.ofChange fnExactColourRunsSpec)

/-- ITS FALSE NEIGHBOUR: 'it returns false'. Refute it at one input. -/
def fnExactColourRunsWrong : ChangeSpec := { name := "fnExactColourRuns", fn := fun _ => fun
  | [d] => { results := [.lit (.bool false)], args := [d] }
  | _ => none }
def FnExactColourRunsWrongFalsely : Prop := fnExactColourRunsRow.holds Try.pinned (OpenSpec.ofChange fnExactColourRunsWrong)

/-- 'laws.FnExactTypingsFor': WHATEVER THE INPUT: true; the input reads as it did. -/
def fnExactTypingsForSpec : ChangeSpec := { name := "fnExactTypingsFor", fn := fun _ => fun
  | [d1, d2] => { results := [.lit (.bool true)], args := [d1, d2] }
  | _ => none }
def fnExactTypingsForRow : OpenClaim := { program := "ytkimlkpepgeolaa", sum := "63d746273c84c6c2dc0cd7d3946622c06584b5950dbbb3c903cba10d1029e347", func := "loop.example/g01045/laws.FnExactTypingsFor", spec := "fnExactTypingsFor", apart := false }
def FnExactTypingsForSaid : Prop := fnExactTypingsForRow.holds Try.pinned (OpenSpec.ofChange fnExactTypingsForSpec)

/-- ITS FALSE NEIGHBOUR: 'it returns false'. Refute it at one input. -/
def fnExactTypingsForWrong : ChangeSpec := { name := "fnExactTypingsFor", fn := fun _ => fun
  | [d1, d2] => { results := [.lit (.bool false)], args := [d1, d2] }
  | _ => none }
def FnExactTypingsForWrongFalsely : Prop := fnExactTypingsForRow.holds Try.pinned (OpenSpec.ofChange fnExactTypingsForWrong)

/-- 'laws.FnExactAbbrText': WHATEVER THE INPUT: true; the input reads as it did. -/
def fnExactAbbrTextSpec : ChangeSpec := { name := "fnExactAbbrText", fn := fun _ => fun
  | [d] => { results := [.lit (.bool true)], args := [d] }
  | _ => none }
def fnExactAbbrTextRow : OpenClaim := { program := "ytkimlkpepgeolaa", sum := "63d746273c84c6c2dc0cd7d3946622c06584b5950dbbb3c903cba10d1029e347", func := "loop.example/g01045/laws.FnExactAbbrText", spec := "fnExactAbbrText", apart := false }
def FnExactAbbrTextSaid : Prop := fnExactAbbrTextRow.holds Try.pinned (OpenSpec.ofChange fnExactAbbrTextSpec)

/-- ITS FALSE NEIGHBOUR: 'it returns false'. Refute it at one input. -/
def fnExactAbbrTextWrong : ChangeSpec := { name := "fnExactAbbrText", fn := fun _ => fun
  | [d] => { results := [.lit (.bool false)], args := [d] }
  | _ => none }
def FnExactAbbrTextWrongFalsely : Prop := fnExactAbbrTextRow.holds Try.pinned (OpenSpec.ofChange fnExactAbbrTextWrong)

/-- 'laws.FnExactSpotAt': WHATEVER THE INPUT: true; the input reads as it did. -/
def fnExactSpotAtSpec : ChangeSpec := { name := "fnExactSpotAt", fn := fun _ => fun
  | [d1, d2] => { results := [.lit (.bool true)], args := [d1, d2] }
  | _ => none }
def fnExactSpotAtRow : OpenClaim := { program := "ytkimlkpepgeolaa", sum := "63d746273c84c6c2dc0cd7d3946622c06584b5950dbbb3c903cba10d1029e347", func := "loop.example/g01045/laws.FnExactSpotAt", spec := "fnExactSpotAt", apart := false }
def FnExactSpotAtSaid : Prop := fnExactSpotAtRow.holds Try.pinned (OpenSpec.ofChange fnExactSpotAtSpec)

/-- ITS FALSE NEIGHBOUR: 'it returns false'. Refute it at one input. -/
def fnExactSpotAtWrong : ChangeSpec := { name := "fnExactSpotAt", fn := fun _ => fun
  | [d1, d2] => { results := [.lit (.bool false)], args := [d1, d2] }
  | _ => none }
def FnExactSpotAtWrongFalsely : Prop := fnExactSpotAtRow.holds Try.pinned (OpenSpec.ofChange fnExactSpotAtWrong)

/-- 'laws.FnExactTurnsIn': WHATEVER THE INPUT: true; the input reads as it did. -/
def fnExactTurnsInSpec : ChangeSpec := { name := "fnExactTurnsIn", fn := fun _ => fun
  | [d1, d2] => { results := [.lit (.bool true)], args := [d1, d2] }
  | _ => none }
def fnExactTurnsInRow : OpenClaim := { program := "ytkimlkpepgeolaa", sum := "63d746273c84c6c2dc0cd7d3946622c06584b5950dbbb3c903cba10d1029e347", func := "loop.example/g01045/laws.FnExactTurnsIn", spec := "fnExactTurnsIn", apart := false }
def FnExactTurnsInSaid : Prop := fnExactTurnsInRow.holds Try.pinned (OpenSpec.ofChange fnExactTurnsInSpec)

/-- ITS FALSE NEIGHBOUR: 'it returns false'. Refute it at one input. -/
def fnExactTurnsInWrong : ChangeSpec := { name := "fnExactTurnsIn", fn := fun _ => fun
  | [d1, d2] => { results := [.lit (.bool false)], args := [d1, d2] }
  | _ => none }
def FnExactTurnsInWrongFalsely : Prop := fnExactTurnsInRow.holds Try.pinned (OpenSpec.ofChange fnExactTurnsInWrong)

/- THE SECOND FORM. 'bulk': how many values and letters a reading holds, each counted each time it is reached (what is shared counts as often as it is met; a slice's spare places count too). A statement '..UptoSaid' is the law's where the arguments, and the package variables that the reading takes, are together of bulk at most 1048576: NARROWER than '..Said'. Prove '..Said' where nothing that the law and all that it calls make is longer than what came in: it says more and counts as full. Else prove '..UptoSaid'. A law counts once. -/
mutual
def uptoBulk {H : Type} : DataW H → Nat
  | .lit (.string bytes) => bytes.length + 1
  | .lit _ => 1
  | .nil => 1
  | .ptr d => uptoBulk d + 1
  | .slice elems spare => uptoBulkAll elems + uptoBulkAll spare + 1
  | .agg parts => uptoBulkAll parts + 1
  | .iface _ d => uptoBulk d + 1
  | .map entries => uptoBulkEntries entries + 1
  | .held _ => 1
def uptoBulkAll {H : Type} : List (DataW H) → Nat
  | [] => 0
  | d :: r => uptoBulk d + uptoBulkAll r
def uptoBulkEntries {H : Type} : List (Lit × DataW H) → Nat
  | [] => 0
  | x :: r => uptoBulkEntry x + uptoBulkEntries r
def uptoBulkEntry {H : Type} : Lit × DataW H → Nat
  | (.string bytes, d) => bytes.length + uptoBulk d + 1
  | (_, d) => uptoBulk d + 1
 end
def uptoSmall : (H : Type) → List (DataW H) → Bool := fun _ ds => decide (uptoBulkAll ds ≤ 1048576)
def OpenSpec.upto (s : _root_.Go.ChangeSpec) : _root_.Go.OpenSpec := { _root_.Go.OpenSpec.ofChange s with cond := some uptoSmall }

/-- 'laws.FnExactValidRibbon', WHERE WHAT IT READS IS OF BULK AT MOST 1048576: true; the input reads as it did. -/
def fnExactValidRibbonUptoRow : OpenClaim := { program := "ytkimlkpepgeolaa", sum := "63d746273c84c6c2dc0cd7d3946622c06584b5950dbbb3c903cba10d1029e347", func := "loop.example/g01045/laws.FnExactValidRibbon", spec := "fnExactValidRibbon", apart := false, narrowed := true }
def FnExactValidRibbonUptoSaid : Prop := fnExactValidRibbonUptoRow.holds Try.pinned (OpenSpec.upto fnExactValidRibbonSpec)

/-- 'laws.FnExactColourRuns', WHERE WHAT IT READS IS OF BULK AT MOST 1048576: true; the input reads as it did. -/
def fnExactColourRunsUptoRow : OpenClaim := { program := "ytkimlkpepgeolaa", sum := "63d746273c84c6c2dc0cd7d3946622c06584b5950dbbb3c903cba10d1029e347", func := "loop.example/g01045/laws.FnExactColourRuns", spec := "fnExactColourRuns", apart := false, narrowed := true }
def FnExactColourRunsUptoSaid : Prop := fnExactColourRunsUptoRow.holds Try.pinned (OpenSpec.upto fnExactColourRunsSpec)

/-- 'laws.FnExactTypingsFor', WHERE WHAT IT READS IS OF BULK AT MOST 1048576: true; the input reads as it did. -/
def fnExactTypingsForUptoRow : OpenClaim := { program := "ytkimlkpepgeolaa", sum := "63d746273c84c6c2dc0cd7d3946622c06584b5950dbbb3c903cba10d1029e347", func := "loop.example/g01045/laws.FnExactTypingsFor", spec := "fnExactTypingsFor", apart := false, narrowed := true }
def FnExactTypingsForUptoSaid : Prop := fnExactTypingsForUptoRow.holds Try.pinned (OpenSpec.upto fnExactTypingsForSpec)

/-- 'laws.FnExactAbbrText', WHERE WHAT IT READS IS OF BULK AT MOST 1048576: true; the input reads as it did. -/
def fnExactAbbrTextUptoRow : OpenClaim := { program := "ytkimlkpepgeolaa", sum := "63d746273c84c6c2dc0cd7d3946622c06584b5950dbbb3c903cba10d1029e347", func := "loop.example/g01045/laws.FnExactAbbrText", spec := "fnExactAbbrText", apart := false, narrowed := true }
def FnExactAbbrTextUptoSaid : Prop := fnExactAbbrTextUptoRow.holds Try.pinned (OpenSpec.upto fnExactAbbrTextSpec)

/-- 'laws.FnExactSpotAt', WHERE WHAT IT READS IS OF BULK AT MOST 1048576: true; the input reads as it did. -/
def fnExactSpotAtUptoRow : OpenClaim := { program := "ytkimlkpepgeolaa", sum := "63d746273c84c6c2dc0cd7d3946622c06584b5950dbbb3c903cba10d1029e347", func := "loop.example/g01045/laws.FnExactSpotAt", spec := "fnExactSpotAt", apart := false, narrowed := true }
def FnExactSpotAtUptoSaid : Prop := fnExactSpotAtUptoRow.holds Try.pinned (OpenSpec.upto fnExactSpotAtSpec)

/-- 'laws.FnExactTurnsIn', WHERE WHAT IT READS IS OF BULK AT MOST 1048576: true; the input reads as it did. -/
def fnExactTurnsInUptoRow : OpenClaim := { program := "ytkimlkpepgeolaa", sum := "63d746273c84c6c2dc0cd7d3946622c06584b5950dbbb3c903cba10d1029e347", func := "loop.example/g01045/laws.FnExactTurnsIn", spec := "fnExactTurnsIn", apart := false, narrowed := true }
def FnExactTurnsInUptoSaid : Prop := fnExactTurnsInUptoRow.holds Try.pinned (OpenSpec.upto fnExactTurnsInSpec)

end Rows
end Go.Proofs.Ytkimlkpepgeolaa
