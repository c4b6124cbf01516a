/-
  No cell of these rows narrows 'for every input' (looked for: loops, veiled, ifaces, maps, wideKeys, modest, calm, conditions, laid).
  DERIVED. THE GIVEN ROWS OF THIS SEAT. 9 by the template 'for every input the law returns true; each argument reads behind the call as it read before'; 0 by the template 'total and deterministic' (their statements: YtojbblbjobbcaaaTotals.lean).
  GIVEN WITH THE SEED: the statements are not yours to turn. If you find one false, say at which input.
  Laid BY PROGRAM, IN A SANDBOX (cutbox-rows.mjs): the forced cells as the released guide's own fill.sh prints them over the translation a3e440cbffbfe742… (all of the seat's roots in one cut). By AI agents, Wed Nov 11 2026. No macro, syntax, notation, axiom, sorry.
-/
import Derived.Test.YtojbblbjobbcaaaChecked
import GoSem.Claim
import GoSem.ClaimJoined
import GoSem.ClaimMapViews
import Derived.JoinedTies
import Derived.KernelRfl
namespace Go.Proofs.Ytojbblbjobbcaaa
/- THE CELL 'sum', in the pinned program and in every row, IS THE sha256 OF THE DUMP (.gsa) THAT YtojbblbjobbcaaaProg.lean LOADS. Nothing in Lean hashes anything: it is a label: what it is worth is what the hold of that sum in a sandbox is worth. -/
noncomputable def Try.pinned : Pinned := { name := "ytojbblbjobbcaaa", sum := "a3e440cbffbfe742acd01713370d0cf2552f73d1a2c50c5dcd020770b6c0face", checked := Try.checked }
namespace Rows
def none {H : Type} : Left H := { results := [], args := [] }

/-- 'laws.FnExactValidCode': WHATEVER THE INPUT: true; the input reads as it did. -/
def fnExactValidCodeSpec : ChangeSpec := { name := "fnExactValidCode", fn := fun _ => fun
  | [d] => { results := [.lit (.bool true)], args := [d] }
  | _ => none }
def fnExactValidCodeRow : OpenClaim := { program := "ytojbblbjobbcaaa", sum := "a3e440cbffbfe742acd01713370d0cf2552f73d1a2c50c5dcd020770b6c0face", func := "loop.example/g01045/laws.FnExactValidCode", spec := "fnExactValidCode", apart := false }
def FnExactValidCodeSaid : Prop := fnExactValidCodeRow.holds Try.pinned (OpenSpec.ofChange fnExactValidCodeSpec)

/-- ITS FALSE NEIGHBOUR: 'it returns false'. Refute it at one input. -/
def fnExactValidCodeWrong : ChangeSpec := { name := "fnExactValidCode", fn := fun _ => fun
  | [d] => { results := [.lit (.bool false)], args := [d] }
  | _ => none }
def FnExactValidCodeWrongFalsely : Prop := fnExactValidCodeRow.holds Try.pinned (OpenSpec.ofChange fnExactValidCodeWrong)

/-- 'laws.FnExactIsPrefixFree': WHATEVER THE INPUT: true; the input reads as it did. -/
def fnExactIsPrefixFreeSpec : ChangeSpec := { name := "fnExactIsPrefixFree", fn := fun _ => fun
  | [d] => { results := [.lit (.bool true)], args := [d] }
  | _ => none }
def fnExactIsPrefixFreeRow : OpenClaim := { program := "ytojbblbjobbcaaa", sum := "a3e440cbffbfe742acd01713370d0cf2552f73d1a2c50c5dcd020770b6c0face", func := "loop.example/g01045/laws.FnExactIsPrefixFree", spec := "fnExactIsPrefixFree", apart := false }
def FnExactIsPrefixFreeSaid : Prop := fnExactIsPrefixFreeRow.holds Try.pinned (OpenSpec.ofChange fnExactIsPrefixFreeSpec)

/-- ITS FALSE NEIGHBOUR: 'it returns false'. Refute it at one input. -/
def fnExactIsPrefixFreeWrong : ChangeSpec := { name := "fnExactIsPrefixFree", fn := fun _ => fun
  | [d] => { results := [.lit (.bool false)], args := [d] }
  | _ => none }
def FnExactIsPrefixFreeWrongFalsely : Prop := fnExactIsPrefixFreeRow.holds Try.pinned (OpenSpec.ofChange fnExactIsPrefixFreeWrong)

/-- 'laws.FnExactCountReadings': WHATEVER THE INPUT: true; the input reads as it did. -/
def fnExactCountReadingsSpec : ChangeSpec := { name := "fnExactCountReadings", fn := fun _ => fun
  | [d1, d2] => { results := [.lit (.bool true)], args := [d1, d2] }
  | _ => none }
def fnExactCountReadingsRow : OpenClaim := { program := "ytojbblbjobbcaaa", sum := "a3e440cbffbfe742acd01713370d0cf2552f73d1a2c50c5dcd020770b6c0face", func := "loop.example/g01045/laws.FnExactCountReadings", spec := "fnExactCountReadings", apart := false }
def FnExactCountReadingsSaid : Prop := fnExactCountReadingsRow.holds Try.pinned (OpenSpec.ofChange fnExactCountReadingsSpec)

/-- ITS FALSE NEIGHBOUR: 'it returns false'. Refute it at one input. -/
def fnExactCountReadingsWrong : ChangeSpec := { name := "fnExactCountReadings", fn := fun _ => fun
  | [d1, d2] => { results := [.lit (.bool false)], args := [d1, d2] }
  | _ => none }
def FnExactCountReadingsWrongFalsely : Prop := fnExactCountReadingsRow.holds Try.pinned (OpenSpec.ofChange fnExactCountReadingsWrong)

/-- 'laws.FnExactEncodeWords': WHATEVER THE INPUT: true; the input reads as it did. -/
def fnExactEncodeWordsSpec : ChangeSpec := { name := "fnExactEncodeWords", fn := fun _ => fun
  | [d1, d2] => { results := [.lit (.bool true)], args := [d1, d2] }
  | _ => none }
def fnExactEncodeWordsRow : OpenClaim := { program := "ytojbblbjobbcaaa", sum := "a3e440cbffbfe742acd01713370d0cf2552f73d1a2c50c5dcd020770b6c0face", func := "loop.example/g01045/laws.FnExactEncodeWords", spec := "fnExactEncodeWords", apart := false }
def FnExactEncodeWordsSaid : Prop := fnExactEncodeWordsRow.holds Try.pinned (OpenSpec.ofChange fnExactEncodeWordsSpec)

/-- ITS FALSE NEIGHBOUR: 'it returns false'. Refute it at one input. -/
def fnExactEncodeWordsWrong : ChangeSpec := { name := "fnExactEncodeWords", fn := fun _ => fun
  | [d1, d2] => { results := [.lit (.bool false)], args := [d1, d2] }
  | _ => none }
def FnExactEncodeWordsWrongFalsely : Prop := fnExactEncodeWordsRow.holds Try.pinned (OpenSpec.ofChange fnExactEncodeWordsWrong)

/-- 'laws.FnExactFewestWords': WHATEVER THE INPUT: true; the input reads as it did. -/
def fnExactFewestWordsSpec : ChangeSpec := { name := "fnExactFewestWords", fn := fun _ => fun
  | [d1, d2] => { results := [.lit (.bool true)], args := [d1, d2] }
  | _ => none }
def fnExactFewestWordsRow : OpenClaim := { program := "ytojbblbjobbcaaa", sum := "a3e440cbffbfe742acd01713370d0cf2552f73d1a2c50c5dcd020770b6c0face", func := "loop.example/g01045/laws.FnExactFewestWords", spec := "fnExactFewestWords", apart := false }
def FnExactFewestWordsSaid : Prop := fnExactFewestWordsRow.holds Try.pinned (OpenSpec.ofChange fnExactFewestWordsSpec)

/-- ITS FALSE NEIGHBOUR: 'it returns false'. Refute it at one input. -/
def fnExactFewestWordsWrong : ChangeSpec := { name := "fnExactFewestWords", fn := fun _ => fun
  | [d1, d2] => { results := [.lit (.bool false)], args := [d1, d2] }
  | _ => none }
def FnExactFewestWordsWrongFalsely : Prop := fnExactFewestWordsRow.holds Try.pinned (OpenSpec.ofChange fnExactFewestWordsWrong)

/-- 'laws.FnExactFirstReading': WHATEVER THE INPUT: true; the input reads as it did. -/
def fnExactFirstReadingSpec : ChangeSpec := { name := "fnExactFirstReading", fn := fun _ => fun
  | [d1, d2] => { results := [.lit (.bool true)], args := [d1, d2] }
  | _ => none }
def fnExactFirstReadingRow : OpenClaim := { program := "ytojbblbjobbcaaa", sum := "a3e440cbffbfe742acd01713370d0cf2552f73d1a2c50c5dcd020770b6c0face", func := "loop.example/g01045/laws.FnExactFirstReading", spec := "fnExactFirstReading", apart := false }
def FnExactFirstReadingSaid : Prop := fnExactFirstReadingRow.holds Try.pinned (OpenSpec.ofChange fnExactFirstReadingSpec)

/-- ITS FALSE NEIGHBOUR: 'it returns false'. Refute it at one input. -/
def fnExactFirstReadingWrong : ChangeSpec := { name := "fnExactFirstReading", fn := fun _ => fun
  | [d1, d2] => { results := [.lit (.bool false)], args := [d1, d2] }
  | _ => none }
def FnExactFirstReadingWrongFalsely : Prop := fnExactFirstReadingRow.holds Try.pinned (OpenSpec.ofChange fnExactFirstReadingWrong)

/-- 'laws.FnExactIsUnique': WHATEVER THE INPUT: true; the input reads as it did. -/
def fnExactIsUniqueSpec : ChangeSpec := { name := "fnExactIsUnique", fn := fun _ => fun
  | [d] => { results := [.lit (.bool true)], args := [d] }
  | _ => none }
def fnExactIsUniqueRow : OpenClaim := { program := "ytojbblbjobbcaaa", sum := "a3e440cbffbfe742acd01713370d0cf2552f73d1a2c50c5dcd020770b6c0face", func := "loop.example/g01045/laws.FnExactIsUnique", spec := "fnExactIsUnique", apart := false }
def FnExactIsUniqueSaid : Prop := fnExactIsUniqueRow.holds Try.pinned (OpenSpec.ofChange fnExactIsUniqueSpec)

/-- ITS FALSE NEIGHBOUR: 'it returns false'. Refute it at one input. -/
def fnExactIsUniqueWrong : ChangeSpec := { name := "fnExactIsUnique", fn := fun _ => fun
  | [d] => { results := [.lit (.bool false)], args := [d] }
  | _ => none }
def FnExactIsUniqueWrongFalsely : Prop := fnExactIsUniqueRow.holds Try.pinned (OpenSpec.ofChange fnExactIsUniqueWrong)

/-- 'laws.FnExactTwoReadings': WHATEVER THE INPUT: true; the input reads as it did. -/
def fnExactTwoReadingsSpec : ChangeSpec := { name := "fnExactTwoReadings", fn := fun _ => fun
  | [d] => { results := [.lit (.bool true)], args := [d] }
  | _ => none }
def fnExactTwoReadingsRow : OpenClaim := { program := "ytojbblbjobbcaaa", sum := "a3e440cbffbfe742acd01713370d0cf2552f73d1a2c50c5dcd020770b6c0face", func := "loop.example/g01045/laws.FnExactTwoReadings", spec := "fnExactTwoReadings", apart := false }
def FnExactTwoReadingsSaid : Prop := fnExactTwoReadingsRow.holds Try.pinned (OpenSpec.ofChange fnExactTwoReadingsSpec)

/-- ITS FALSE NEIGHBOUR: 'it returns false'. Refute it at one input. -/
def fnExactTwoReadingsWrong : ChangeSpec := { name := "fnExactTwoReadings", fn := fun _ => fun
  | [d] => { results := [.lit (.bool false)], args := [d] }
  | _ => none }
def FnExactTwoReadingsWrongFalsely : Prop := fnExactTwoReadingsRow.holds Try.pinned (OpenSpec.ofChange fnExactTwoReadingsWrong)

/-- 'laws.FnExactLongestRest': WHATEVER THE INPUT: true; the input reads as it did. -/
def fnExactLongestRestSpec : ChangeSpec := { name := "fnExactLongestRest", fn := fun _ => fun
  | [d] => { results := [.lit (.bool true)], args := [d] }
  | _ => none }
def fnExactLongestRestRow : OpenClaim := { program := "ytojbblbjobbcaaa", sum := "a3e440cbffbfe742acd01713370d0cf2552f73d1a2c50c5dcd020770b6c0face", func := "loop.example/g01045/laws.FnExactLongestRest", spec := "fnExactLongestRest", apart := false }
def FnExactLongestRestSaid : Prop := fnExactLongestRestRow.holds Try.pinned (OpenSpec.ofChange fnExactLongestRestSpec)

/-- ITS FALSE NEIGHBOUR: 'it returns false'. Refute it at one input. -/
def fnExactLongestRestWrong : ChangeSpec := { name := "fnExactLongestRest", fn := fun _ => fun
  | [d] => { results := [.lit (.bool false)], args := [d] }
  | _ => none }
def FnExactLongestRestWrongFalsely : Prop := fnExactLongestRestRow.holds Try.pinned (OpenSpec.ofChange fnExactLongestRestWrong)

/- THE SECOND FORM. 'bulk': how many values and letters a reading holds, each counted each time it is reached (what is shared counts as often as it is met; a slice's spare places count too). A statement '..UptoSaid' is the law's where the arguments, and the package variables that the reading takes, are together of bulk at most 1048576: NARROWER than '..Said'. Prove '..Said' where nothing that the law and all that it calls make is longer than what came in: it says more and counts as full. Else prove '..UptoSaid'. A law counts once. -/
mutual
def uptoBulk {H : Type} : DataW H → Nat
  | .lit (.string bytes) => bytes.length + 1
  | .lit _ => 1
  | .nil => 1
  | .ptr d => uptoBulk d + 1
  | .slice elems spare => uptoBulkAll elems + uptoBulkAll spare + 1
  | .agg parts => uptoBulkAll parts + 1
  | .iface _ d => uptoBulk d + 1
  | .map entries => uptoBulkEntries entries + 1
  | .held _ => 1
def uptoBulkAll {H : Type} : List (DataW H) → Nat
  | [] => 0
  | d :: r => uptoBulk d + uptoBulkAll r
def uptoBulkEntries {H : Type} : List (Lit × DataW H) → Nat
  | [] => 0
  | x :: r => uptoBulkEntry x + uptoBulkEntries r
def uptoBulkEntry {H : Type} : Lit × DataW H → Nat
  | (.string bytes, d) => bytes.length + uptoBulk d + 1
  | (_, d) => uptoBulk d + 1
 end
def uptoSmall : (H : Type) → List (DataW H) → Bool := fun _ ds => decide (uptoBulkAll ds ≤ 1048576)
def OpenSpec.upto (s : _root_.Go.ChangeSpec) : _root_.Go.OpenSpec := { _root_.Go.OpenSpec.ofChange s with cond := some uptoSmall }

/-- 'laws.FnExactValidCode', WHERE WHAT IT READS IS OF BULK AT MOST 1048576: true; the input reads as it did. -/
def fnExactValidCodeUptoRow : OpenClaim := { program := "ytojbblbjobbcaaa", sum := "a3e440cbffbfe742acd01713370d0cf2552f73d1a2c50c5dcd020770b6c0face", func := "loop.example/g01045/laws.FnExactValidCode", spec := "fnExactValidCode", apart := false, narrowed := true }
def FnExactValidCodeUptoSaid : Prop := fnExactValidCodeUptoRow.holds Try.pinned (OpenSpec.upto fnExactValidCodeSpec)

/-- 'laws.FnExactIsPrefixFree', WHERE WHAT IT READS IS OF BULK AT MOST 1048576: true; the input reads as it did. -/
def fnExactIsPrefixFreeUptoRow : OpenClaim := { program := "ytojbblbjobbcaaa", sum := "a3e440cbffbfe742acd01713370d0cf2552f73d1a2c50c5dcd020770b6c0face", func := "loop.example/g01045/laws.FnExactIsPrefixFree", spec := "fnExactIsPrefixFree", apart := false, narrowed := true }
def FnExactIsPrefixFreeUptoSaid : Prop := fnExactIsPrefixFreeUptoRow.holds Try.pinned (OpenSpec.upto fnExactIsPrefixFreeSpec)

/-- 'laws.FnExactCountReadings', WHERE WHAT IT READS IS OF BULK AT MOST 1048576: true; the input reads as it did. -/
def fnExactCountReadingsUptoRow : OpenClaim := { program := "ytojbblbjobbcaaa", sum := "a3e440cbffbfe742acd01713370d0cf2552f73d1a2c50c5dcd020770b6c0face", func := "loop.example/g01045/laws.FnExactCountReadings", spec := "fnExactCountReadings", apart := false, narrowed := true }
def FnExactCountReadingsUptoSaid : Prop := fnExactCountReadingsUptoRow.holds Try.pinned (OpenSpec.upto fnExactCountReadingsSpec)

/-- 'laws.FnExactEncodeWords', WHERE WHAT IT READS IS OF BULK AT MOST 1048576: true; the input reads as it did. -/
def fnExactEncodeWordsUptoRow : OpenClaim := { program := "ytojbblbjobbcaaa", sum := "a3e440cbffbfe742acd01713370d0cf2552f73d1a2c50c5dcd020770b6c0face", func := "loop.example/g01045/laws.FnExactEncodeWords", spec := "fnExactEncodeWords", apart := false, narrowed := true }
def FnExactEncodeWordsUptoSaid : Prop := fnExactEncodeWordsUptoRow.holds Try.pinned (OpenSpec.upto fnExactEncodeWordsSpec)

/-- 'laws.FnExactFewestWords', WHERE WHAT IT READS IS OF BULK AT MOST 1048576: true; the input reads as it did. -/
def fnExactFewestWordsUptoRow : OpenClaim := { program := "ytojbblbjobbcaaa", sum := "a3e440cbffbfe742acd01713370d0cf2552f73d1a2c50c5dcd020770b6c0face", func := "loop.example/g01045/laws.FnExactFewestWords", spec := "fnExactFewestWords", apart := false, narrowed := true }
def FnExactFewestWordsUptoSaid : Prop := fnExactFewestWordsUptoRow.holds Try.pinned (OpenSpec.upto fnExactFewestWordsSpec)

/-- 'laws.FnExactFirstReading', WHERE WHAT IT READS IS OF BULK AT MOST 1048576: true; the input reads as it did. -/
def fnExactFirstReadingUptoRow : OpenClaim := { program := "ytojbblbjobbcaaa", sum := "a3e440cbffbfe742acd01713370d0cf2552f73d1a2c50c5dcd020770b6c0face", func := "loop.example/g01045/laws.FnExactFirstReading", spec := "fnExactFirstReading", apart := false, narrowed := true }
def FnExactFirstReadingUptoSaid : Prop := fnExactFirstReadingUptoRow.holds Try.pinned (OpenSpec.upto fnExactFirstReadingSpec)

/-- 'laws.FnExactIsUnique', WHERE WHAT IT READS IS OF BULK AT MOST 1048576: true; the input reads as it did. -/
def fnExactIsUniqueUptoRow : OpenClaim := { program := "ytojbblbjobbcaaa", sum := "a3e440cbffbfe742acd01713370d0cf2552f73d1a2c50c5dcd020770b6c0face", func := "loop.example/g01045/laws.FnExactIsUnique", spec := "fnExactIsUnique", apart := false, narrowed := true }
def FnExactIsUniqueUptoSaid : Prop := fnExactIsUniqueUptoRow.holds Try.pinned (OpenSpec.upto fnExactIsUniqueSpec)

/-- 'laws.FnExactTwoReadings', WHERE WHAT IT READS IS OF BULK AT MOST 1048576: true; the input reads as it did. -/
def fnExactTwoReadingsUptoRow : OpenClaim := { program := "ytojbblbjobbcaaa", sum := "a3e440cbffbfe742acd01713370d0cf2552f73d1a2c50c5dcd020770b6c0face", func := "loop.example/g01045/laws.FnExactTwoReadings", spec := "fnExactTwoReadings", apart := false, narrowed := true }
def FnExactTwoReadingsUptoSaid : Prop := fnExactTwoReadingsUptoRow.holds Try.pinned (OpenSpec.upto fnExactTwoReadingsSpec)

/-- 'laws.FnExactLongestRest', WHERE WHAT IT READS IS OF BULK AT MOST 1048576: true; the input reads as it did. -/
def fnExactLongestRestUptoRow : OpenClaim := { program := "ytojbblbjobbcaaa", sum := "a3e440cbffbfe742acd01713370d0cf2552f73d1a2c50c5dcd020770b6c0face", func := "loop.example/g01045/laws.FnExactLongestRest", spec := "fnExactLongestRest", apart := false, narrowed := true }
def FnExactLongestRestUptoSaid : Prop := fnExactLongestRestUptoRow.holds Try.pinned (OpenSpec.upto fnExactLongestRestSpec)

end Rows
end Go.Proofs.Ytojbblbjobbcaaa
