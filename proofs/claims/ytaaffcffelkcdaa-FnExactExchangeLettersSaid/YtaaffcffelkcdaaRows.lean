/-
  No cell of these rows narrows 'for every input' (looked for: loops, veiled, ifaces, maps, wideKeys, modest, calm, conditions, laid).
  DERIVED. THE GIVEN ROWS OF THIS SEAT. 7 by the template 'for every input the law returns true; each argument reads behind the call as it read before'; 0 by the template 'total and deterministic' (their statements: YtaaffcffelkcdaaTotals.lean).
  GIVEN WITH THE SEED: the statements are not yours to turn. If you find one false, say at which input.
  Laid BY PROGRAM, IN A SANDBOX (cutbox-rows.mjs): the forced cells as the released guide's own fill.sh prints them over the translation 56f678206fd646a8… (all of the seat's roots in one cut). By AI agents, Wed Nov 11 2026. No macro, syntax, notation, axiom, sorry.
-/
import Derived.Test.YtaaffcffelkcdaaChecked
import GoSem.Claim
import GoSem.ClaimJoined
import GoSem.ClaimMapViews
import Derived.JoinedTies
import Derived.KernelRfl
namespace Go.Proofs.Ytaaffcffelkcdaa
/- THE CELL 'sum', in the pinned program and in every row, IS THE sha256 OF THE DUMP (.gsa) THAT YtaaffcffelkcdaaProg.lean LOADS. Nothing in Lean hashes anything: it is a label: what it is worth is what the hold of that sum in a sandbox is worth. -/
noncomputable def Try.pinned : Pinned := { name := "ytaaffcffelkcdaa", sum := "56f678206fd646a8f63309ea4337a7c9fecaa78fc88316cee3d1763469ae0920", checked := Try.checked }
namespace Rows
def none {H : Type} : Left H := { results := [], args := [] }

/-- 'laws.FnExactSpotOfLetter': WHATEVER THE INPUT: true; the input reads as it did. -/
def fnExactSpotOfLetterSpec : ChangeSpec := { name := "fnExactSpotOfLetter", fn := fun _ => fun
  | [d1, d2] => { results := [.lit (.bool true)], args := [d1, d2] }
  | _ => none }
def fnExactSpotOfLetterRow : OpenClaim := { program := "ytaaffcffelkcdaa", sum := "56f678206fd646a8f63309ea4337a7c9fecaa78fc88316cee3d1763469ae0920", func := "loop.example/g01045/laws.FnExactSpotOfLetter", spec := "fnExactSpotOfLetter", apart := false }
def FnExactSpotOfLetterSaid : Prop := fnExactSpotOfLetterRow.holds Try.pinned (OpenSpec.ofChange fnExactSpotOfLetterSpec)

/-- ITS FALSE NEIGHBOUR: 'it returns false'. Refute it at one input. -/
def fnExactSpotOfLetterWrong : ChangeSpec := { name := "fnExactSpotOfLetter", fn := fun _ => fun
  | [d1, d2] => { results := [.lit (.bool false)], args := [d1, d2] }
  | _ => none }
def FnExactSpotOfLetterWrongFalsely : Prop := fnExactSpotOfLetterRow.holds Try.pinned (OpenSpec.ofChange fnExactSpotOfLetterWrong)

/-- 'laws.FnExactDistanceOf': WHATEVER THE INPUT: true; the input reads as it did. -/
def fnExactDistanceOfSpec : ChangeSpec := { name := "fnExactDistanceOf", fn := fun _ => fun
  | [d1, d2] => { results := [.lit (.bool true)], args := [d1, d2] }
  | _ => none }
def fnExactDistanceOfRow : OpenClaim := { program := "ytaaffcffelkcdaa", sum := "56f678206fd646a8f63309ea4337a7c9fecaa78fc88316cee3d1763469ae0920", func := "loop.example/g01045/laws.FnExactDistanceOf", spec := "fnExactDistanceOf", apart := false }
def FnExactDistanceOfSaid : Prop := fnExactDistanceOfRow.holds Try.pinned (OpenSpec.ofChange fnExactDistanceOfSpec)

/-- ITS FALSE NEIGHBOUR: 'it returns false'. Refute it at one input. -/
def fnExactDistanceOfWrong : ChangeSpec := { name := "fnExactDistanceOf", fn := fun _ => fun
  | [d1, d2] => { results := [.lit (.bool false)], args := [d1, d2] }
  | _ => none }
def FnExactDistanceOfWrongFalsely : Prop := fnExactDistanceOfRow.holds Try.pinned (OpenSpec.ofChange fnExactDistanceOfWrong)

/-- 'laws.FnExactMovedLetters': WHATEVER THE INPUT: true; the input reads as it did. -/
def fnExactMovedLettersSpec : ChangeSpec := { name := "fnExactMovedLetters", fn := fun _ => fun
  | [d1, d2] => { results := [.lit (.bool true)], args := [d1, d2] }
  | _ => none }
def fnExactMovedLettersRow : OpenClaim := { program := "ytaaffcffelkcdaa", sum := "56f678206fd646a8f63309ea4337a7c9fecaa78fc88316cee3d1763469ae0920", func := "loop.example/g01045/laws.FnExactMovedLetters", spec := "fnExactMovedLetters", apart := false }
def FnExactMovedLettersSaid : Prop := fnExactMovedLettersRow.holds Try.pinned (OpenSpec.ofChange fnExactMovedLettersSpec)

/-- ITS FALSE NEIGHBOUR: 'it returns false'. Refute it at one input. -/
def fnExactMovedLettersWrong : ChangeSpec := { name := "fnExactMovedLetters", fn := fun _ => fun
  | [d1, d2] => { results := [.lit (.bool false)], args := [d1, d2] }
  | _ => none }
def FnExactMovedLettersWrongFalsely : Prop := fnExactMovedLettersRow.holds Try.pinned (OpenSpec.ofChange fnExactMovedLettersWrong)

/-- 'laws.FnExactRowShares': WHATEVER THE INPUT: true; the input reads as it did. -/
def fnExactRowSharesSpec : ChangeSpec := { name := "fnExactRowShares", fn := fun _ => fun
  | [d1, d2] => { results := [.lit (.bool true)], args := [d1, d2] }
  | _ => none }
def fnExactRowSharesRow : OpenClaim := { program := "ytaaffcffelkcdaa", sum := "56f678206fd646a8f63309ea4337a7c9fecaa78fc88316cee3d1763469ae0920", func := "loop.example/g01045/laws.FnExactRowShares", spec := "fnExactRowShares", apart := false }
def FnExactRowSharesSaid : Prop := fnExactRowSharesRow.holds Try.pinned (OpenSpec.ofChange fnExactRowSharesSpec)

/-- ITS FALSE NEIGHBOUR: 'it returns false'. Refute it at one input. -/
def fnExactRowSharesWrong : ChangeSpec := { name := "fnExactRowShares", fn := fun _ => fun
  | [d1, d2] => { results := [.lit (.bool false)], args := [d1, d2] }
  | _ => none }
def FnExactRowSharesWrongFalsely : Prop := fnExactRowSharesRow.holds Try.pinned (OpenSpec.ofChange fnExactRowSharesWrong)

/-- 'laws.FnExactExchangeLetters': WHATEVER THE INPUT: true; the input reads as it did. -/
def fnExactExchangeLettersSpec : ChangeSpec := { name := "fnExactExchangeLetters", fn := fun _ => fun
  | [d1, d2, d3] => { results := [.lit (.bool true)], args := [d1, d2, d3] }
  | _ => none }
def fnExactExchangeLettersRow : OpenClaim := { program := "ytaaffcffelkcdaa", sum := "56f678206fd646a8f63309ea4337a7c9fecaa78fc88316cee3d1763469ae0920", func := "loop.example/g01045/laws.FnExactExchangeLetters", spec := "fnExactExchangeLetters", apart := false }
def FnExactExchangeLettersSaid : Prop := fnExactExchangeLettersRow.holds Try.pinned (OpenSpec.ofChange fnExactExchangeLettersSpec)

/-- ITS FALSE NEIGHBOUR: 'it returns false'. Refute it at one input. -/
def fnExactExchangeLettersWrong : ChangeSpec := { name := "fnExactExchangeLetters", fn := fun _ => fun
  | [d1, d2, d3] => { results := [.lit (.bool false)], args := [d1, d2, d3] }
  | _ => none }
def FnExactExchangeLettersWrongFalsely : Prop := fnExactExchangeLettersRow.holds Try.pinned (OpenSpec.ofChange fnExactExchangeLettersWrong)

/-- 'laws.FnExactFewestExchanges': WHATEVER THE INPUT: true; the input reads as it did. -/
def fnExactFewestExchangesSpec : ChangeSpec := { name := "fnExactFewestExchanges", fn := fun _ => fun
  | [d1, d2] => { results := [.lit (.bool true)], args := [d1, d2] }
  | _ => none }
def fnExactFewestExchangesRow : OpenClaim := { program := "ytaaffcffelkcdaa", sum := "56f678206fd646a8f63309ea4337a7c9fecaa78fc88316cee3d1763469ae0920", func := "loop.example/g01045/laws.FnExactFewestExchanges", spec := "fnExactFewestExchanges", apart := false }
def FnExactFewestExchangesSaid : Prop := fnExactFewestExchangesRow.holds Try.pinned (OpenSpec.ofChange fnExactFewestExchangesSpec)

/-- ITS FALSE NEIGHBOUR: 'it returns false'. Refute it at one input. -/
def fnExactFewestExchangesWrong : ChangeSpec := { name := "fnExactFewestExchanges", fn := fun _ => fun
  | [d1, d2] => { results := [.lit (.bool false)], args := [d1, d2] }
  | _ => none }
def FnExactFewestExchangesWrongFalsely : Prop := fnExactFewestExchangesRow.holds Try.pinned (OpenSpec.ofChange fnExactFewestExchangesWrong)

/-- 'laws.FnExactExchangePlan': WHATEVER THE INPUT: true; the input reads as it did. -/
def fnExactExchangePlanSpec : ChangeSpec := { name := "fnExactExchangePlan", fn := fun _ => fun
  | [d1, d2] => { results := [.lit (.bool true)], args := [d1, d2] }
  | _ => none }
def fnExactExchangePlanRow : OpenClaim := { program := "ytaaffcffelkcdaa", sum := "56f678206fd646a8f63309ea4337a7c9fecaa78fc88316cee3d1763469ae0920", func := "loop.example/g01045/laws.FnExactExchangePlan", spec := "fnExactExchangePlan", apart := false }
def FnExactExchangePlanSaid : Prop := fnExactExchangePlanRow.holds Try.pinned (OpenSpec.ofChange fnExactExchangePlanSpec)

/-- ITS FALSE NEIGHBOUR: 'it returns false'. Refute it at one input. -/
def fnExactExchangePlanWrong : ChangeSpec := { name := "fnExactExchangePlan", fn := fun _ => fun
  | [d1, d2] => { results := [.lit (.bool false)], args := [d1, d2] }
  | _ => none }
def FnExactExchangePlanWrongFalsely : Prop := fnExactExchangePlanRow.holds Try.pinned (OpenSpec.ofChange fnExactExchangePlanWrong)

/- THE SECOND FORM. 'bulk': how many values and letters a reading holds, each counted each time it is reached (what is shared counts as often as it is met; a slice's spare places count too). A statement '..UptoSaid' is the law's where the arguments, and the package variables that the reading takes, are together of bulk at most 1048576: NARROWER than '..Said'. Prove '..Said' where nothing that the law and all that it calls make is longer than what came in: it says more and counts as full. Else prove '..UptoSaid'. A law counts once. -/
mutual
def uptoBulk {H : Type} : DataW H → Nat
  | .lit (.string bytes) => bytes.length + 1
  | .lit _ => 1
  | .nil => 1
  | .ptr d => uptoBulk d + 1
  | .slice elems spare => uptoBulkAll elems + uptoBulkAll spare + 1
  | .agg parts => uptoBulkAll parts + 1
  | .iface _ d => uptoBulk d + 1
  | .map entries => uptoBulkEntries entries + 1
  | .held _ => 1
def uptoBulkAll {H : Type} : List (DataW H) → Nat
  | [] => 0
  | d :: r => uptoBulk d + uptoBulkAll r
def uptoBulkEntries {H : Type} : List (Lit × DataW H) → Nat
  | [] => 0
  | x :: r => uptoBulkEntry x + uptoBulkEntries r
def uptoBulkEntry {H : Type} : Lit × DataW H → Nat
  | (.string bytes, d) => bytes.length + uptoBulk d + 1
  | (_, d) => uptoBulk d + 1
 end
def uptoSmall : (H : Type) → List (DataW H) → Bool := fun _ ds => decide (uptoBulkAll ds ≤ 1048576)
def OpenSpec.upto (s : _root_.Go.ChangeSpec) : _root_.Go.OpenSpec := { _root_.Go.OpenSpec.ofChange s with cond := some uptoSmall }

/-- 'laws.FnExactSpotOfLetter', WHERE WHAT IT READS IS OF BULK AT MOST 1048576: true; the input reads as it did. -/
def fnExactSpotOfLetterUptoRow : OpenClaim := { program := "ytaaffcffelkcdaa", sum := "56f678206fd646a8f63309ea4337a7c9fecaa78fc88316cee3d1763469ae0920", func := "loop.example/g01045/laws.FnExactSpotOfLetter", spec := "fnExactSpotOfLetter", apart := false, narrowed := true }
def FnExactSpotOfLetterUptoSaid : Prop := fnExactSpotOfLetterUptoRow.holds Try.pinned (OpenSpec.upto fnExactSpotOfLetterSpec)

/-- 'laws.FnExactDistanceOf', WHERE WHAT IT READS IS OF BULK AT MOST 1048576: true; the input reads as it did. -/
def fnExactDistanceOfUptoRow : OpenClaim := { program := "ytaaffcffelkcdaa", sum := "56f678206fd646a8f63309ea4337a7c9fecaa78fc88316cee3d1763469ae0920", func := "loop.example/g01045/laws.FnExactDistanceOf", spec := "fnExactDistanceOf", apart := false, narrowed := true }
def FnExactDistanceOfUptoSaid : Prop := fnExactDistanceOfUptoRow.holds Try.pinned (OpenSpec.upto fnExactDistanceOfSpec)

/-- 'laws.FnExactMovedLetters', WHERE WHAT IT READS IS OF BULK AT MOST 1048576: true; the input reads as it did. -/
def fnExactMovedLettersUptoRow : OpenClaim := { program := "ytaaffcffelkcdaa", sum := "56f678206fd646a8f63309ea4337a7c9fecaa78fc88316cee3d1763469ae0920", func := "loop.example/g01045/laws.FnExactMovedLetters", spec := "fnExactMovedLetters", apart := false, narrowed := true }
def FnExactMovedLettersUptoSaid : Prop := fnExactMovedLettersUptoRow.holds Try.pinned (OpenSpec.upto fnExactMovedLettersSpec)

/-- 'laws.FnExactRowShares', WHERE WHAT IT READS IS OF BULK AT MOST 1048576: true; the input reads as it did. -/
def fnExactRowSharesUptoRow : OpenClaim := { program := "ytaaffcffelkcdaa", sum := "56f678206fd646a8f63309ea4337a7c9fecaa78fc88316cee3d1763469ae0920", func := "loop.example/g01045/laws.FnExactRowShares", spec := "fnExactRowShares", apart := false, narrowed := true }
def FnExactRowSharesUptoSaid : Prop := fnExactRowSharesUptoRow.holds Try.pinned (OpenSpec.upto fnExactRowSharesSpec)

/-- 'laws.FnExactExchangeLetters', WHERE WHAT IT READS IS OF BULK AT MOST 1048576: true; the input reads as it did. -/
def fnExactExchangeLettersUptoRow : OpenClaim := { program := "ytaaffcffelkcdaa", sum := "56f678206fd646a8f63309ea4337a7c9fecaa78fc88316cee3d1763469ae0920", func := "loop.example/g01045/laws.FnExactExchangeLetters", spec := "fnExactExchangeLetters", apart := false, narrowed := true }
def FnExactExchangeLettersUptoSaid : Prop := fnExactExchangeLettersUptoRow.holds Try.pinned (OpenSpec.upto fnExactExchangeLettersSpec)

/-- 'laws.FnExactFewestExchanges', WHERE WHAT IT READS IS OF BULK AT MOST 1048576: true; the input reads as it did. -/
def fnExactFewestExchangesUptoRow : OpenClaim := { program := "ytaaffcffelkcdaa", sum := "56f678206fd646a8f63309ea4337a7c9fecaa78fc88316cee3d1763469ae0920", func := "loop.example/g01045/laws.FnExactFewestExchanges", spec := "fnExactFewestExchanges", apart := false, narrowed := true }
def FnExactFewestExchangesUptoSaid : Prop := fnExactFewestExchangesUptoRow.holds Try.pinned (OpenSpec.upto fnExactFewestExchangesSpec)

/-- 'laws.FnExactExchangePlan', WHERE WHAT IT READS IS OF BULK AT MOST 1048576: true; the input reads as it did. -/
def fnExactExchangePlanUptoRow : OpenClaim := { program := "ytaaffcffelkcdaa", sum := "56f678206fd646a8f63309ea4337a7c9fecaa78fc88316cee3d1763469ae0920", func := "loop.example/g01045/laws.FnExactExchangePlan", spec := "fnExactExchangePlan", apart := false, narrowed := true }
def FnExactExchangePlanUptoSaid : Prop := fnExactExchangePlanUptoRow.holds Try.pinned (OpenSpec.upto fnExactExchangePlanSpec)

end Rows
end Go.Proofs.Ytaaffcffelkcdaa
