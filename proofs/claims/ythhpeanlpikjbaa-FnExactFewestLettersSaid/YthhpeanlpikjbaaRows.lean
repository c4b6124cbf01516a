/-
  No cell of these rows narrows 'for every input' (looked for: loops, veiled, ifaces, maps, wideKeys, modest, calm, conditions, laid).
  DERIVED. THE GIVEN ROWS OF THIS SEAT. 9 by the template 'for every input the law returns true; each argument reads behind the call as it read before'; 0 by the template 'total and deterministic' (their statements: YthhpeanlpikjbaaTotals.lean).
  GIVEN WITH THE SEED: the statements are not yours to turn. If you find one false, say at which input.
  Laid BY PROGRAM, IN A SANDBOX (cutbox-rows.mjs): the forced cells as the released guide's own fill.sh prints them over the translation 9c248fdd657442df… (all of the seat's roots in one cut). By AI agents, Wed Nov 11 2026. No macro, syntax, notation, axiom, sorry.
-/
import Derived.Test.YthhpeanlpikjbaaChecked
import GoSem.Claim
import GoSem.ClaimJoined
import GoSem.ClaimMapViews
import Derived.JoinedTies
import Derived.KernelRfl
namespace Go.Proofs.Ythhpeanlpikjbaa
/- THE CELL 'sum', in the pinned program and in every row, IS THE sha256 OF THE DUMP (.gsa) THAT YthhpeanlpikjbaaProg.lean LOADS. Nothing in Lean hashes anything: it is a label: what it is worth is what the hold of that sum in a sandbox is worth. -/
noncomputable def Try.pinned : Pinned := { name := "ythhpeanlpikjbaa", sum := "9c248fdd657442dfd31a368a2e8950d6c5eb2bcbf986f22b929d1886c238eb31", checked := Try.checked }
namespace Rows
def none {H : Type} : Left H := { results := [], args := [] }

/-- 'laws.FnExactValidSeen': WHATEVER THE INPUT: true; the input reads as it did. -/
def fnExactValidSeenSpec : ChangeSpec := { name := "fnExactValidSeen", fn := fun _ => fun
  | [d] => { results := [.lit (.bool true)], args := [d] }
  | _ => none }
def fnExactValidSeenRow : OpenClaim := { program := "ythhpeanlpikjbaa", sum := "9c248fdd657442dfd31a368a2e8950d6c5eb2bcbf986f22b929d1886c238eb31", func := "loop.example/g01045/laws.FnExactValidSeen", spec := "fnExactValidSeen", apart := false }
def FnExactValidSeenSaid : Prop := fnExactValidSeenRow.holds Try.pinned (OpenSpec.ofChange fnExactValidSeenSpec)

/-- ITS FALSE NEIGHBOUR: 'it returns false'. Refute it at one input. -/
def fnExactValidSeenWrong : ChangeSpec := { name := "fnExactValidSeen", fn := fun _ => fun
  | [d] => { results := [.lit (.bool false)], args := [d] }
  | _ => none }
def FnExactValidSeenWrongFalsely : Prop := fnExactValidSeenRow.holds Try.pinned (OpenSpec.ofChange fnExactValidSeenWrong)

/-- 'laws.FnExactValidWriters': WHATEVER THE INPUT: true; the input reads as it did. -/
def fnExactValidWritersSpec : ChangeSpec := { name := "fnExactValidWriters", fn := fun _ => fun
  | [d] => { results := [.lit (.bool true)], args := [d] }
  | _ => none }
def fnExactValidWritersRow : OpenClaim := { program := "ythhpeanlpikjbaa", sum := "9c248fdd657442dfd31a368a2e8950d6c5eb2bcbf986f22b929d1886c238eb31", func := "loop.example/g01045/laws.FnExactValidWriters", spec := "fnExactValidWriters", apart := false }
def FnExactValidWritersSaid : Prop := fnExactValidWritersRow.holds Try.pinned (OpenSpec.ofChange fnExactValidWritersSpec)

/-- ITS FALSE NEIGHBOUR: 'it returns false'. Refute it at one input. -/
def fnExactValidWritersWrong : ChangeSpec := { name := "fnExactValidWriters", fn := fun _ => fun
  | [d] => { results := [.lit (.bool false)], args := [d] }
  | _ => none }
def FnExactValidWritersWrongFalsely : Prop := fnExactValidWritersRow.holds Try.pinned (OpenSpec.ofChange fnExactValidWritersWrong)

/-- 'laws.FnExactKindOf': WHATEVER THE INPUT: true; the input reads as it did. -/
def fnExactKindOfSpec : ChangeSpec := { name := "fnExactKindOf", fn := fun _ => fun
  | [d1, d2] => { results := [.lit (.bool true)], args := [d1, d2] }
  | _ => none }
def fnExactKindOfRow : OpenClaim := { program := "ythhpeanlpikjbaa", sum := "9c248fdd657442dfd31a368a2e8950d6c5eb2bcbf986f22b929d1886c238eb31", func := "loop.example/g01045/laws.FnExactKindOf", spec := "fnExactKindOf", apart := false }
def FnExactKindOfSaid : Prop := fnExactKindOfRow.holds Try.pinned (OpenSpec.ofChange fnExactKindOfSpec)

/-- ITS FALSE NEIGHBOUR: 'it returns false'. Refute it at one input. -/
def fnExactKindOfWrong : ChangeSpec := { name := "fnExactKindOf", fn := fun _ => fun
  | [d1, d2] => { results := [.lit (.bool false)], args := [d1, d2] }
  | _ => none }
def FnExactKindOfWrongFalsely : Prop := fnExactKindOfRow.holds Try.pinned (OpenSpec.ofChange fnExactKindOfWrong)

/-- 'laws.FnExactContraryLetters': WHATEVER THE INPUT: true; the input reads as it did. -/
def fnExactContraryLettersSpec : ChangeSpec := { name := "fnExactContraryLetters", fn := fun _ => fun
  | [d] => { results := [.lit (.bool true)], args := [d] }
  | _ => none }
def fnExactContraryLettersRow : OpenClaim := { program := "ythhpeanlpikjbaa", sum := "9c248fdd657442dfd31a368a2e8950d6c5eb2bcbf986f22b929d1886c238eb31", func := "loop.example/g01045/laws.FnExactContraryLetters", spec := "fnExactContraryLetters", apart := false }
def FnExactContraryLettersSaid : Prop := fnExactContraryLettersRow.holds Try.pinned (OpenSpec.ofChange fnExactContraryLettersSpec)

/-- ITS FALSE NEIGHBOUR: 'it returns false'. Refute it at one input. -/
def fnExactContraryLettersWrong : ChangeSpec := { name := "fnExactContraryLetters", fn := fun _ => fun
  | [d] => { results := [.lit (.bool false)], args := [d] }
  | _ => none }
def FnExactContraryLettersWrongFalsely : Prop := fnExactContraryLettersRow.holds Try.pinned (OpenSpec.ofChange fnExactContraryLettersWrong)

/-- 'laws.FnExactContradictionsOf': WHATEVER THE INPUT: true; the input reads as it did. -/
def fnExactContradictionsOfSpec : ChangeSpec := { name := "fnExactContradictionsOf", fn := fun _ => fun
  | [d1, d2] => { results := [.lit (.bool true)], args := [d1, d2] }
  | _ => none }
def fnExactContradictionsOfRow : OpenClaim := { program := "ythhpeanlpikjbaa", sum := "9c248fdd657442dfd31a368a2e8950d6c5eb2bcbf986f22b929d1886c238eb31", func := "loop.example/g01045/laws.FnExactContradictionsOf", spec := "fnExactContradictionsOf", apart := false }
def FnExactContradictionsOfSaid : Prop := fnExactContradictionsOfRow.holds Try.pinned (OpenSpec.ofChange fnExactContradictionsOfSpec)

/-- ITS FALSE NEIGHBOUR: 'it returns false'. Refute it at one input. -/
def fnExactContradictionsOfWrong : ChangeSpec := { name := "fnExactContradictionsOf", fn := fun _ => fun
  | [d1, d2] => { results := [.lit (.bool false)], args := [d1, d2] }
  | _ => none }
def FnExactContradictionsOfWrongFalsely : Prop := fnExactContradictionsOfRow.holds Try.pinned (OpenSpec.ofChange fnExactContradictionsOfWrong)

/-- 'laws.FnExactTypePage': WHATEVER THE INPUT: true; the input reads as it did. -/
def fnExactTypePageSpec : ChangeSpec := { name := "fnExactTypePage", fn := fun _ => fun
  | [d1, d2] => { results := [.lit (.bool true)], args := [d1, d2] }
  | _ => none }
def fnExactTypePageRow : OpenClaim := { program := "ythhpeanlpikjbaa", sum := "9c248fdd657442dfd31a368a2e8950d6c5eb2bcbf986f22b929d1886c238eb31", func := "loop.example/g01045/laws.FnExactTypePage", spec := "fnExactTypePage", apart := false }
def FnExactTypePageSaid : Prop := fnExactTypePageRow.holds Try.pinned (OpenSpec.ofChange fnExactTypePageSpec)

/-- ITS FALSE NEIGHBOUR: 'it returns false'. Refute it at one input. -/
def fnExactTypePageWrong : ChangeSpec := { name := "fnExactTypePage", fn := fun _ => fun
  | [d1, d2] => { results := [.lit (.bool false)], args := [d1, d2] }
  | _ => none }
def FnExactTypePageWrongFalsely : Prop := fnExactTypePageRow.holds Try.pinned (OpenSpec.ofChange fnExactTypePageWrong)

/-- 'laws.FnExactLettersApart': WHATEVER THE INPUT: true; the input reads as it did. -/
def fnExactLettersApartSpec : ChangeSpec := { name := "fnExactLettersApart", fn := fun _ => fun
  | [d1, d2] => { results := [.lit (.bool true)], args := [d1, d2] }
  | _ => none }
def fnExactLettersApartRow : OpenClaim := { program := "ythhpeanlpikjbaa", sum := "9c248fdd657442dfd31a368a2e8950d6c5eb2bcbf986f22b929d1886c238eb31", func := "loop.example/g01045/laws.FnExactLettersApart", spec := "fnExactLettersApart", apart := false }
def FnExactLettersApartSaid : Prop := fnExactLettersApartRow.holds Try.pinned (OpenSpec.ofChange fnExactLettersApartSpec)

/-- ITS FALSE NEIGHBOUR: 'it returns false'. Refute it at one input. -/
def fnExactLettersApartWrong : ChangeSpec := { name := "fnExactLettersApart", fn := fun _ => fun
  | [d1, d2] => { results := [.lit (.bool false)], args := [d1, d2] }
  | _ => none }
def FnExactLettersApartWrongFalsely : Prop := fnExactLettersApartRow.holds Try.pinned (OpenSpec.ofChange fnExactLettersApartWrong)

/-- 'laws.FnExactBestWriters': WHATEVER THE INPUT: true; the input reads as it did. -/
def fnExactBestWritersSpec : ChangeSpec := { name := "fnExactBestWriters", fn := fun _ => fun
  | [d1, d2] => { results := [.lit (.bool true)], args := [d1, d2] }
  | _ => none }
def fnExactBestWritersRow : OpenClaim := { program := "ythhpeanlpikjbaa", sum := "9c248fdd657442dfd31a368a2e8950d6c5eb2bcbf986f22b929d1886c238eb31", func := "loop.example/g01045/laws.FnExactBestWriters", spec := "fnExactBestWriters", apart := false }
def FnExactBestWritersSaid : Prop := fnExactBestWritersRow.holds Try.pinned (OpenSpec.ofChange fnExactBestWritersSpec)

/-- ITS FALSE NEIGHBOUR: 'it returns false'. Refute it at one input. -/
def fnExactBestWritersWrong : ChangeSpec := { name := "fnExactBestWriters", fn := fun _ => fun
  | [d1, d2] => { results := [.lit (.bool false)], args := [d1, d2] }
  | _ => none }
def FnExactBestWritersWrongFalsely : Prop := fnExactBestWritersRow.holds Try.pinned (OpenSpec.ofChange fnExactBestWritersWrong)

/-- 'laws.FnExactFewestLetters': WHATEVER THE INPUT: true; the input reads as it did. -/
def fnExactFewestLettersSpec : ChangeSpec := { name := "fnExactFewestLetters", fn := fun _ => fun
  | [d] => { results := [.lit (.bool true)], args := [d] }
  | _ => none }
def fnExactFewestLettersRow : OpenClaim := { program := "ythhpeanlpikjbaa", sum := "9c248fdd657442dfd31a368a2e8950d6c5eb2bcbf986f22b929d1886c238eb31", func := "loop.example/g01045/laws.FnExactFewestLetters", spec := "fnExactFewestLetters", recurses := true, apart := false }
def FnExactFewestLettersSaid : Prop := fnExactFewestLettersRow.holds Try.pinned (OpenSpec.ofChange fnExactFewestLettersSpec)

/-- ITS FALSE NEIGHBOUR: 'it returns false'. Refute it at one input. -/
def fnExactFewestLettersWrong : ChangeSpec := { name := "fnExactFewestLetters", fn := fun _ => fun
  | [d] => { results := [.lit (.bool false)], args := [d] }
  | _ => none }
def FnExactFewestLettersWrongFalsely : Prop := fnExactFewestLettersRow.holds Try.pinned (OpenSpec.ofChange fnExactFewestLettersWrong)

/- THE SECOND FORM. 'bulk': how many values and letters a reading holds, each counted each time it is reached (what is shared counts as often as it is met; a slice's spare places count too). A statement '..UptoSaid' is the law's where the arguments, and the package variables that the reading takes, are together of bulk at most 1048576: NARROWER than '..Said'. Prove '..Said' where nothing that the law and all that it calls make is longer than what came in: it says more and counts as full. Else prove '..UptoSaid'. A law counts once. -/
mutual
def uptoBulk {H : Type} : DataW H → Nat
  | .lit (.string bytes) => bytes.length + 1
  | .lit _ => 1
  | .nil => 1
  | .ptr d => uptoBulk d + 1
  | .slice elems spare => uptoBulkAll elems + uptoBulkAll spare + 1
  | .agg parts => uptoBulkAll parts + 1
  | .iface _ d => uptoBulk d + 1
  | .map entries => uptoBulkEntries entries + 1
  | .held _ => 1
def uptoBulkAll {H : Type} : List (DataW H) → Nat
  | [] => 0
  | d :: r => uptoBulk d + uptoBulkAll r
def uptoBulkEntries {H : Type} : List (Lit × DataW H) → Nat
  | [] => 0
  | x :: r => uptoBulkEntry x + uptoBulkEntries r
def uptoBulkEntry {H : Type} : Lit × DataW H → Nat
  | (.string bytes, d) => bytes.length + uptoBulk d + 1
  | (_, d) => uptoBulk d + 1
 end
def uptoSmall : (H : Type) → List (DataW H) → Bool := fun _ ds => decide (uptoBulkAll ds ≤ 1048576)
def OpenSpec.upto (s : _root_.Go.ChangeSpec) : _root_.Go.OpenSpec := { _root_.Go.OpenSpec.ofChange s with cond := some uptoSmall }

/-- 'laws.FnExactValidSeen', WHERE WHAT IT READS IS OF BULK AT MOST 1048576: true; the input reads as it did. -/
def fnExactValidSeenUptoRow : OpenClaim := { program := "ythhpeanlpikjbaa", sum := "9c248fdd657442dfd31a368a2e8950d6c5eb2bcbf986f22b929d1886c238eb31", func := "loop.example/g01045/laws.FnExactValidSeen", spec := "fnExactValidSeen", apart := false, narrowed := true }
def FnExactValidSeenUptoSaid : Prop := fnExactValidSeenUptoRow.holds Try.pinned (OpenSpec.upto fnExactValidSeenSpec)

/-- 'laws.FnExactValidWriters', WHERE WHAT IT READS IS OF BULK AT MOST 1048576: true; the input reads as it did. -/
def fnExactValidWritersUptoRow : OpenClaim := { program := "ythhpeanlpikjbaa", sum := "9c248fdd657442dfd31a368a2e8950d6c5eb2bcbf986f22b929d1886c238eb31", func := "loop.example/g01045/laws.FnExactValidWriters", spec := "fnExactValidWriters", apart := false, narrowed := true }
def FnExactValidWritersUptoSaid : Prop := fnExactValidWritersUptoRow.holds Try.pinned (OpenSpec.upto fnExactValidWritersSpec)

/-- 'laws.FnExactKindOf', WHERE WHAT IT READS IS OF BULK AT MOST 1048576: true; the input reads as it did. -/
def fnExactKindOfUptoRow : OpenClaim := { program := "ythhpeanlpikjbaa", sum := "9c248fdd657442dfd31a368a2e8950d6c5eb2bcbf986f22b929d1886c238eb31", func := "loop.example/g01045/laws.FnExactKindOf", spec := "fnExactKindOf", apart := false, narrowed := true }
def FnExactKindOfUptoSaid : Prop := fnExactKindOfUptoRow.holds Try.pinned (OpenSpec.upto fnExactKindOfSpec)

/-- 'laws.FnExactContraryLetters', WHERE WHAT IT READS IS OF BULK AT MOST 1048576: true; the input reads as it did. -/
def fnExactContraryLettersUptoRow : OpenClaim := { program := "ythhpeanlpikjbaa", sum := "9c248fdd657442dfd31a368a2e8950d6c5eb2bcbf986f22b929d1886c238eb31", func := "loop.example/g01045/laws.FnExactContraryLetters", spec := "fnExactContraryLetters", apart := false, narrowed := true }
def FnExactContraryLettersUptoSaid : Prop := fnExactContraryLettersUptoRow.holds Try.pinned (OpenSpec.upto fnExactContraryLettersSpec)

/-- 'laws.FnExactContradictionsOf', WHERE WHAT IT READS IS OF BULK AT MOST 1048576: true; the input reads as it did. -/
def fnExactContradictionsOfUptoRow : OpenClaim := { program := "ythhpeanlpikjbaa", sum := "9c248fdd657442dfd31a368a2e8950d6c5eb2bcbf986f22b929d1886c238eb31", func := "loop.example/g01045/laws.FnExactContradictionsOf", spec := "fnExactContradictionsOf", apart := false, narrowed := true }
def FnExactContradictionsOfUptoSaid : Prop := fnExactContradictionsOfUptoRow.holds Try.pinned (OpenSpec.upto fnExactContradictionsOfSpec)

/-- 'laws.FnExactTypePage', WHERE WHAT IT READS IS OF BULK AT MOST 1048576: true; the input reads as it did. -/
def fnExactTypePageUptoRow : OpenClaim := { program := "ythhpeanlpikjbaa", sum := "9c248fdd657442dfd31a368a2e8950d6c5eb2bcbf986f22b929d1886c238eb31", func := "loop.example/g01045/laws.FnExactTypePage", spec := "fnExactTypePage", apart := false, narrowed := true }
def FnExactTypePageUptoSaid : Prop := fnExactTypePageUptoRow.holds Try.pinned (OpenSpec.upto fnExactTypePageSpec)

/-- 'laws.FnExactLettersApart', WHERE WHAT IT READS IS OF BULK AT MOST 1048576: true; the input reads as it did. -/
def fnExactLettersApartUptoRow : OpenClaim := { program := "ythhpeanlpikjbaa", sum := "9c248fdd657442dfd31a368a2e8950d6c5eb2bcbf986f22b929d1886c238eb31", func := "loop.example/g01045/laws.FnExactLettersApart", spec := "fnExactLettersApart", apart := false, narrowed := true }
def FnExactLettersApartUptoSaid : Prop := fnExactLettersApartUptoRow.holds Try.pinned (OpenSpec.upto fnExactLettersApartSpec)

/-- 'laws.FnExactBestWriters', WHERE WHAT IT READS IS OF BULK AT MOST 1048576: true; the input reads as it did. -/
def fnExactBestWritersUptoRow : OpenClaim := { program := "ythhpeanlpikjbaa", sum := "9c248fdd657442dfd31a368a2e8950d6c5eb2bcbf986f22b929d1886c238eb31", func := "loop.example/g01045/laws.FnExactBestWriters", spec := "fnExactBestWriters", apart := false, narrowed := true }
def FnExactBestWritersUptoSaid : Prop := fnExactBestWritersUptoRow.holds Try.pinned (OpenSpec.upto fnExactBestWritersSpec)

/-- 'laws.FnExactFewestLetters', WHERE WHAT IT READS IS OF BULK AT MOST 1048576: true; the input reads as it did. -/
def fnExactFewestLettersUptoRow : OpenClaim := { program := "ythhpeanlpikjbaa", sum := "9c248fdd657442dfd31a368a2e8950d6c5eb2bcbf986f22b929d1886c238eb31", func := "loop.example/g01045/laws.FnExactFewestLetters", spec := "fnExactFewestLetters", recurses := true, apart := false, narrowed := true }
def FnExactFewestLettersUptoSaid : Prop := fnExactFewestLettersUptoRow.holds Try.pinned (OpenSpec.upto fnExactFewestLettersSpec)

end Rows
end Go.Proofs.Ythhpeanlpikjbaa
