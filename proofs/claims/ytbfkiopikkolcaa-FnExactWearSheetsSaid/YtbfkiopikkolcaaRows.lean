/-
  No cell of these rows narrows 'for every input' (looked for: loops, veiled, ifaces, maps, wideKeys, modest, calm, conditions, laid).
  DERIVED. THE GIVEN ROWS OF THIS SEAT. 7 by the template 'for every input the law returns true; each argument reads behind the call as it read before'; 0 by the template 'total and deterministic' (their statements: YtbfkiopikkolcaaTotals.lean).
  GIVEN WITH THE SEED: the statements are not yours to turn. If you find one false, say at which input.
  Laid BY PROGRAM, IN A SANDBOX (cutbox-rows.mjs): the forced cells as the released guide's own fill.sh prints them over the translation 436dd371f58f5f57… (all of the seat's roots in one cut). By AI agents, Wed Nov 11 2026. No macro, syntax, notation, axiom, sorry.
-/
import Derived.Test.YtbfkiopikkolcaaChecked
import GoSem.Claim
import GoSem.ClaimJoined
import GoSem.ClaimMapViews
import Derived.JoinedTies
import Derived.KernelRfl
namespace Go.Proofs.Ytbfkiopikkolcaa
/- THE CELL 'sum', in the pinned program and in every row, IS THE sha256 OF THE DUMP (.gsa) THAT YtbfkiopikkolcaaProg.lean LOADS. Nothing in Lean hashes anything: it is a label: what it is worth is what the hold of that sum in a sandbox is worth. -/
noncomputable def Try.pinned : Pinned := { name := "ytbfkiopikkolcaa", sum := "436dd371f58f5f5706215e6ff867ab00956df253c57d5678d7573720615383f4", checked := Try.checked }
namespace Rows
def none {H : Type} : Left H := { results := [], args := [] }

/-- 'laws.FnExactTypingsFor': WHATEVER THE INPUT: true; the input reads as it did. -/
def fnExactTypingsForSpec : ChangeSpec := { name := "fnExactTypingsFor", fn := fun _ => fun
  | [d1, d2] => { results := [.lit (.bool true)], args := [d1, d2] }
  | _ => none }
def fnExactTypingsForRow : OpenClaim := { program := "ytbfkiopikkolcaa", sum := "436dd371f58f5f5706215e6ff867ab00956df253c57d5678d7573720615383f4", func := "loop.example/g01045/laws.FnExactTypingsFor", spec := "fnExactTypingsFor", apart := false }
def FnExactTypingsForSaid : Prop := fnExactTypingsForRow.holds Try.pinned (OpenSpec.ofChange fnExactTypingsForSpec)

/-- ITS FALSE NEIGHBOUR: 'it returns false'. Refute it at one input. -/
def fnExactTypingsForWrong : ChangeSpec := { name := "fnExactTypingsFor", fn := fun _ => fun
  | [d1, d2] => { results := [.lit (.bool false)], args := [d1, d2] }
  | _ => none }
def FnExactTypingsForWrongFalsely : Prop := fnExactTypingsForRow.holds Try.pinned (OpenSpec.ofChange fnExactTypingsForWrong)

/-- 'laws.FnExactSameLessons': WHATEVER THE INPUT: true; the input reads as it did. -/
def fnExactSameLessonsSpec : ChangeSpec := { name := "fnExactSameLessons", fn := fun _ => fun
  | [d1, d2] => { results := [.lit (.bool true)], args := [d1, d2] }
  | _ => none }
def fnExactSameLessonsRow : OpenClaim := { program := "ytbfkiopikkolcaa", sum := "436dd371f58f5f5706215e6ff867ab00956df253c57d5678d7573720615383f4", func := "loop.example/g01045/laws.FnExactSameLessons", spec := "fnExactSameLessons", apart := false }
def FnExactSameLessonsSaid : Prop := fnExactSameLessonsRow.holds Try.pinned (OpenSpec.ofChange fnExactSameLessonsSpec)

/-- ITS FALSE NEIGHBOUR: 'it returns false'. Refute it at one input. -/
def fnExactSameLessonsWrong : ChangeSpec := { name := "fnExactSameLessons", fn := fun _ => fun
  | [d1, d2] => { results := [.lit (.bool false)], args := [d1, d2] }
  | _ => none }
def FnExactSameLessonsWrongFalsely : Prop := fnExactSameLessonsRow.holds Try.pinned (OpenSpec.ofChange fnExactSameLessonsWrong)

/-- 'laws.FnExactValidLessons': WHATEVER THE INPUT: true; the input reads as it did. -/
def fnExactValidLessonsSpec : ChangeSpec := { name := "fnExactValidLessons", fn := fun _ => fun
  | [d] => { results := [.lit (.bool true)], args := [d] }
  | _ => none }
def fnExactValidLessonsRow : OpenClaim := { program := "ytbfkiopikkolcaa", sum := "436dd371f58f5f5706215e6ff867ab00956df253c57d5678d7573720615383f4", func := "loop.example/g01045/laws.FnExactValidLessons", spec := "fnExactValidLessons", apart := false }
def FnExactValidLessonsSaid : Prop := fnExactValidLessonsRow.holds Try.pinned (OpenSpec.ofChange fnExactValidLessonsSpec)

/-- ITS FALSE NEIGHBOUR: 'it returns false'. Refute it at one input. -/
def fnExactValidLessonsWrong : ChangeSpec := { name := "fnExactValidLessons", fn := fun _ => fun
  | [d] => { results := [.lit (.bool false)], args := [d] }
  | _ => none }
def FnExactValidLessonsWrongFalsely : Prop := fnExactValidLessonsRow.holds Try.pinned (OpenSpec.ofChange fnExactValidLessonsWrong)

/-- 'laws.FnExactHoursOfLessons': WHATEVER THE INPUT: true; the input reads as it did. -/
def fnExactHoursOfLessonsSpec : ChangeSpec := { name := "fnExactHoursOfLessons", fn := fun _ => fun
  | [d1, d2] => { results := [.lit (.bool true)], args := [d1, d2] }
  | _ => none }
def fnExactHoursOfLessonsRow : OpenClaim := { program := "ytbfkiopikkolcaa", sum := "436dd371f58f5f5706215e6ff867ab00956df253c57d5678d7573720615383f4", func := "loop.example/g01045/laws.FnExactHoursOfLessons", spec := "fnExactHoursOfLessons", apart := false }
def FnExactHoursOfLessonsSaid : Prop := fnExactHoursOfLessonsRow.holds Try.pinned (OpenSpec.ofChange fnExactHoursOfLessonsSpec)

/-- ITS FALSE NEIGHBOUR: 'it returns false'. Refute it at one input. -/
def fnExactHoursOfLessonsWrong : ChangeSpec := { name := "fnExactHoursOfLessons", fn := fun _ => fun
  | [d1, d2] => { results := [.lit (.bool false)], args := [d1, d2] }
  | _ => none }
def FnExactHoursOfLessonsWrongFalsely : Prop := fnExactHoursOfLessonsRow.holds Try.pinned (OpenSpec.ofChange fnExactHoursOfLessonsWrong)

/-- 'laws.FnExactKnownAfter': WHATEVER THE INPUT: true; the input reads as it did. -/
def fnExactKnownAfterSpec : ChangeSpec := { name := "fnExactKnownAfter", fn := fun _ => fun
  | [d1, d2] => { results := [.lit (.bool true)], args := [d1, d2] }
  | _ => none }
def fnExactKnownAfterRow : OpenClaim := { program := "ytbfkiopikkolcaa", sum := "436dd371f58f5f5706215e6ff867ab00956df253c57d5678d7573720615383f4", func := "loop.example/g01045/laws.FnExactKnownAfter", spec := "fnExactKnownAfter", apart := false }
def FnExactKnownAfterSaid : Prop := fnExactKnownAfterRow.holds Try.pinned (OpenSpec.ofChange fnExactKnownAfterSpec)

/-- ITS FALSE NEIGHBOUR: 'it returns false'. Refute it at one input. -/
def fnExactKnownAfterWrong : ChangeSpec := { name := "fnExactKnownAfter", fn := fun _ => fun
  | [d1, d2] => { results := [.lit (.bool false)], args := [d1, d2] }
  | _ => none }
def FnExactKnownAfterWrongFalsely : Prop := fnExactKnownAfterRow.holds Try.pinned (OpenSpec.ofChange fnExactKnownAfterWrong)

/-- 'laws.FnExactEvenSheets': WHATEVER THE INPUT: true; the input reads as it did. -/
def fnExactEvenSheetsSpec : ChangeSpec := { name := "fnExactEvenSheets", fn := fun _ => fun
  | [d] => { results := [.lit (.bool true)], args := [d] }
  | _ => none }
def fnExactEvenSheetsRow : OpenClaim := { program := "ytbfkiopikkolcaa", sum := "436dd371f58f5f5706215e6ff867ab00956df253c57d5678d7573720615383f4", func := "loop.example/g01045/laws.FnExactEvenSheets", spec := "fnExactEvenSheets", inPlace := ["internal/reflectlite.ValueOf", "internal/reflectlite.Swapper", "(internal/reflectlite.Value).Len"], unfollowed := true, recurses := true, apart := false }
def FnExactEvenSheetsSaid : Prop := fnExactEvenSheetsRow.holds Try.pinned (OpenSpec.ofChange fnExactEvenSheetsSpec)

/-- ITS FALSE NEIGHBOUR: 'it returns false'. Refute it at one input. -/
def fnExactEvenSheetsWrong : ChangeSpec := { name := "fnExactEvenSheets", fn := fun _ => fun
  | [d] => { results := [.lit (.bool false)], args := [d] }
  | _ => none }
def FnExactEvenSheetsWrongFalsely : Prop := fnExactEvenSheetsRow.holds Try.pinned (OpenSpec.ofChange fnExactEvenSheetsWrong)

/-- 'laws.FnExactWearSheets': WHATEVER THE INPUT: true; the input reads as it did. -/
def fnExactWearSheetsSpec : ChangeSpec := { name := "fnExactWearSheets", fn := fun _ => fun
  | [d1, d2] => { results := [.lit (.bool true)], args := [d1, d2] }
  | _ => none }
def fnExactWearSheetsRow : OpenClaim := { program := "ytbfkiopikkolcaa", sum := "436dd371f58f5f5706215e6ff867ab00956df253c57d5678d7573720615383f4", func := "loop.example/g01045/laws.FnExactWearSheets", spec := "fnExactWearSheets", inPlace := ["internal/reflectlite.ValueOf", "internal/reflectlite.Swapper", "(internal/reflectlite.Value).Len"], unfollowed := true, recurses := true, apart := false }
def FnExactWearSheetsSaid : Prop := fnExactWearSheetsRow.holds Try.pinned (OpenSpec.ofChange fnExactWearSheetsSpec)

/-- ITS FALSE NEIGHBOUR: 'it returns false'. Refute it at one input. -/
def fnExactWearSheetsWrong : ChangeSpec := { name := "fnExactWearSheets", fn := fun _ => fun
  | [d1, d2] => { results := [.lit (.bool false)], args := [d1, d2] }
  | _ => none }
def FnExactWearSheetsWrongFalsely : Prop := fnExactWearSheetsRow.holds Try.pinned (OpenSpec.ofChange fnExactWearSheetsWrong)

/- THE SECOND FORM. 'bulk': how many values and letters a reading holds, each counted each time it is reached (what is shared counts as often as it is met; a slice's spare places count too). A statement '..UptoSaid' is the law's where the arguments, and the package variables that the reading takes, are together of bulk at most 1048576: NARROWER than '..Said'. Prove '..Said' where nothing that the law and all that it calls make is longer than what came in: it says more and counts as full. Else prove '..UptoSaid'. A law counts once. -/
mutual
def uptoBulk {H : Type} : DataW H → Nat
  | .lit (.string bytes) => bytes.length + 1
  | .lit _ => 1
  | .nil => 1
  | .ptr d => uptoBulk d + 1
  | .slice elems spare => uptoBulkAll elems + uptoBulkAll spare + 1
  | .agg parts => uptoBulkAll parts + 1
  | .iface _ d => uptoBulk d + 1
  | .map entries => uptoBulkEntries entries + 1
  | .held _ => 1
def uptoBulkAll {H : Type} : List (DataW H) → Nat
  | [] => 0
  | d :: r => uptoBulk d + uptoBulkAll r
def uptoBulkEntries {H : Type} : List (Lit × DataW H) → Nat
  | [] => 0
  | x :: r => uptoBulkEntry x + uptoBulkEntries r
def uptoBulkEntry {H : Type} : Lit × DataW H → Nat
  | (.string bytes, d) => bytes.length + uptoBulk d + 1
  | (_, d) => uptoBulk d + 1
 end
def uptoSmall : (H : Type) → List (DataW H) → Bool := fun _ ds => decide (uptoBulkAll ds ≤ 1048576)
def OpenSpec.upto (s : _root_.Go.ChangeSpec) : _root_.Go.OpenSpec := { _root_.Go.OpenSpec.ofChange s with cond := some uptoSmall }

/-- 'laws.FnExactTypingsFor', WHERE WHAT IT READS IS OF BULK AT MOST 1048576: true; the input reads as it did. -/
def fnExactTypingsForUptoRow : OpenClaim := { program := "ytbfkiopikkolcaa", sum := "436dd371f58f5f5706215e6ff867ab00956df253c57d5678d7573720615383f4", func := "loop.example/g01045/laws.FnExactTypingsFor", spec := "fnExactTypingsFor", apart := false, narrowed := true }
def FnExactTypingsForUptoSaid : Prop := fnExactTypingsForUptoRow.holds Try.pinned (OpenSpec.upto fnExactTypingsForSpec)

/-- 'laws.FnExactSameLessons', WHERE WHAT IT READS IS OF BULK AT MOST 1048576: true; the input reads as it did. -/
def fnExactSameLessonsUptoRow : OpenClaim := { program := "ytbfkiopikkolcaa", sum := "436dd371f58f5f5706215e6ff867ab00956df253c57d5678d7573720615383f4", func := "loop.example/g01045/laws.FnExactSameLessons", spec := "fnExactSameLessons", apart := false, narrowed := true }
def FnExactSameLessonsUptoSaid : Prop := fnExactSameLessonsUptoRow.holds Try.pinned (OpenSpec.upto fnExactSameLessonsSpec)

/-- 'laws.FnExactValidLessons', WHERE WHAT IT READS IS OF BULK AT MOST 1048576: true; the input reads as it did. -/
def fnExactValidLessonsUptoRow : OpenClaim := { program := "ytbfkiopikkolcaa", sum := "436dd371f58f5f5706215e6ff867ab00956df253c57d5678d7573720615383f4", func := "loop.example/g01045/laws.FnExactValidLessons", spec := "fnExactValidLessons", apart := false, narrowed := true }
def FnExactValidLessonsUptoSaid : Prop := fnExactValidLessonsUptoRow.holds Try.pinned (OpenSpec.upto fnExactValidLessonsSpec)

/-- 'laws.FnExactHoursOfLessons', WHERE WHAT IT READS IS OF BULK AT MOST 1048576: true; the input reads as it did. -/
def fnExactHoursOfLessonsUptoRow : OpenClaim := { program := "ytbfkiopikkolcaa", sum := "436dd371f58f5f5706215e6ff867ab00956df253c57d5678d7573720615383f4", func := "loop.example/g01045/laws.FnExactHoursOfLessons", spec := "fnExactHoursOfLessons", apart := false, narrowed := true }
def FnExactHoursOfLessonsUptoSaid : Prop := fnExactHoursOfLessonsUptoRow.holds Try.pinned (OpenSpec.upto fnExactHoursOfLessonsSpec)

/-- 'laws.FnExactKnownAfter', WHERE WHAT IT READS IS OF BULK AT MOST 1048576: true; the input reads as it did. -/
def fnExactKnownAfterUptoRow : OpenClaim := { program := "ytbfkiopikkolcaa", sum := "436dd371f58f5f5706215e6ff867ab00956df253c57d5678d7573720615383f4", func := "loop.example/g01045/laws.FnExactKnownAfter", spec := "fnExactKnownAfter", apart := false, narrowed := true }
def FnExactKnownAfterUptoSaid : Prop := fnExactKnownAfterUptoRow.holds Try.pinned (OpenSpec.upto fnExactKnownAfterSpec)

/-- 'laws.FnExactEvenSheets', WHERE WHAT IT READS IS OF BULK AT MOST 1048576: true; the input reads as it did. -/
def fnExactEvenSheetsUptoRow : OpenClaim := { program := "ytbfkiopikkolcaa", sum := "436dd371f58f5f5706215e6ff867ab00956df253c57d5678d7573720615383f4", func := "loop.example/g01045/laws.FnExactEvenSheets", spec := "fnExactEvenSheets", inPlace := ["internal/reflectlite.ValueOf", "internal/reflectlite.Swapper", "(internal/reflectlite.Value).Len"], unfollowed := true, recurses := true, apart := false, narrowed := true }
def FnExactEvenSheetsUptoSaid : Prop := fnExactEvenSheetsUptoRow.holds Try.pinned (OpenSpec.upto fnExactEvenSheetsSpec)

/-- 'laws.FnExactWearSheets', WHERE WHAT IT READS IS OF BULK AT MOST 1048576: true; the input reads as it did. -/
def fnExactWearSheetsUptoRow : OpenClaim := { program := "ytbfkiopikkolcaa", sum := "436dd371f58f5f5706215e6ff867ab00956df253c57d5678d7573720615383f4", func := "loop.example/g01045/laws.FnExactWearSheets", spec := "fnExactWearSheets", inPlace := ["internal/reflectlite.ValueOf", "internal/reflectlite.Swapper", "(internal/reflectlite.Value).Len"], unfollowed := true, recurses := true, apart := false, narrowed := true }
def FnExactWearSheetsUptoSaid : Prop := fnExactWearSheetsUptoRow.holds Try.pinned (OpenSpec.upto fnExactWearSheetsSpec)

end Rows
end Go.Proofs.Ytbfkiopikkolcaa
