/-
  No cell of these rows narrows 'for every input' (looked for: loops, veiled, ifaces, maps, wideKeys, modest, calm, conditions, laid).
  DERIVED. THE GIVEN ROWS OF THIS SEAT. 11 by the template 'for every input the law returns true; each argument reads behind the call as it read before'; 0 by the template 'total and deterministic' (their statements: YtkkfnmlomjlckaaTotals.lean).
  GIVEN WITH THE SEED: the statements are not yours to turn. If you find one false, say at which input.
  Laid BY PROGRAM, IN A SANDBOX (cutbox-rows.mjs): the forced cells as the released guide's own fill.sh prints them over the translation e9fc3ae9ec95574a… (all of the seat's roots in one cut). By AI agents, Wed Nov 11 2026. No macro, syntax, notation, axiom, sorry.
-/
import Derived.Test.YtkkfnmlomjlckaaChecked
import GoSem.Claim
import GoSem.ClaimJoined
import GoSem.ClaimMapViews
import Derived.JoinedTies
import Derived.KernelRfl
namespace Go.Proofs.Ytkkfnmlomjlckaa
/- THE CELL 'sum', in the pinned program and in every row, IS THE sha256 OF THE DUMP (.gsa) THAT YtkkfnmlomjlckaaProg.lean LOADS. Nothing in Lean hashes anything: it is a label: what it is worth is what the hold of that sum in a sandbox is worth. -/
noncomputable def Try.pinned : Pinned := { name := "ytkkfnmlomjlckaa", sum := "e9fc3ae9ec95574aba70e51c43dab69167e63947fb0b68e927bfa07f2aa52c96", checked := Try.checked }
namespace Rows
def none {H : Type} : Left H := { results := [], args := [] }

/-- 'laws.FnExactAbbrText': WHATEVER THE INPUT: true; the input reads as it did. -/
def fnExactAbbrTextSpec : ChangeSpec := { name := "fnExactAbbrText", fn := fun _ => fun
  | [d] => { results := [.lit (.bool true)], args := [d] }
  | _ => none }
def fnExactAbbrTextRow : OpenClaim := { program := "ytkkfnmlomjlckaa", sum := "e9fc3ae9ec95574aba70e51c43dab69167e63947fb0b68e927bfa07f2aa52c96", func := "loop.example/g01045/laws.FnExactAbbrText", spec := "fnExactAbbrText", apart := false }
def FnExactAbbrTextSaid : Prop := fnExactAbbrTextRow.holds Try.pinned (OpenSpec.ofChange fnExactAbbrTextSpec)

/-- ITS FALSE NEIGHBOUR: 'it returns false'. Refute it at one input. -/
def fnExactAbbrTextWrong : ChangeSpec := { name := "fnExactAbbrText", fn := fun _ => fun
  | [d] => { results := [.lit (.bool false)], args := [d] }
  | _ => none }
def FnExactAbbrTextWrongFalsely : Prop := fnExactAbbrTextRow.holds Try.pinned (OpenSpec.ofChange fnExactAbbrTextWrong)

/-- 'laws.FnExactReadAbbr': WHATEVER THE INPUT: true; the input reads as it did. -/
def fnExactReadAbbrSpec : ChangeSpec := { name := "fnExactReadAbbr", fn := fun _ => fun
  | [d] => { results := [.lit (.bool true)], args := [d] }
  | _ => none }
def fnExactReadAbbrRow : OpenClaim := { program := "ytkkfnmlomjlckaa", sum := "e9fc3ae9ec95574aba70e51c43dab69167e63947fb0b68e927bfa07f2aa52c96", func := "loop.example/g01045/laws.FnExactReadAbbr", spec := "fnExactReadAbbr", apart := false }
def FnExactReadAbbrSaid : Prop := fnExactReadAbbrRow.holds Try.pinned (OpenSpec.ofChange fnExactReadAbbrSpec)

/-- ITS FALSE NEIGHBOUR: 'it returns false'. Refute it at one input. -/
def fnExactReadAbbrWrong : ChangeSpec := { name := "fnExactReadAbbr", fn := fun _ => fun
  | [d] => { results := [.lit (.bool false)], args := [d] }
  | _ => none }
def FnExactReadAbbrWrongFalsely : Prop := fnExactReadAbbrRow.holds Try.pinned (OpenSpec.ofChange fnExactReadAbbrWrong)

/-- 'laws.FnExactValidAbbrs': WHATEVER THE INPUT: true; the input reads as it did. -/
def fnExactValidAbbrsSpec : ChangeSpec := { name := "fnExactValidAbbrs", fn := fun _ => fun
  | [d] => { results := [.lit (.bool true)], args := [d] }
  | _ => none }
def fnExactValidAbbrsRow : OpenClaim := { program := "ytkkfnmlomjlckaa", sum := "e9fc3ae9ec95574aba70e51c43dab69167e63947fb0b68e927bfa07f2aa52c96", func := "loop.example/g01045/laws.FnExactValidAbbrs", spec := "fnExactValidAbbrs", apart := false }
def FnExactValidAbbrsSaid : Prop := fnExactValidAbbrsRow.holds Try.pinned (OpenSpec.ofChange fnExactValidAbbrsSpec)

/-- ITS FALSE NEIGHBOUR: 'it returns false'. Refute it at one input. -/
def fnExactValidAbbrsWrong : ChangeSpec := { name := "fnExactValidAbbrs", fn := fun _ => fun
  | [d] => { results := [.lit (.bool false)], args := [d] }
  | _ => none }
def FnExactValidAbbrsWrongFalsely : Prop := fnExactValidAbbrsRow.holds Try.pinned (OpenSpec.ofChange fnExactValidAbbrsWrong)

/-- 'laws.FnExactSameAbbrs': WHATEVER THE INPUT: true; the input reads as it did. -/
def fnExactSameAbbrsSpec : ChangeSpec := { name := "fnExactSameAbbrs", fn := fun _ => fun
  | [d1, d2] => { results := [.lit (.bool true)], args := [d1, d2] }
  | _ => none }
def fnExactSameAbbrsRow : OpenClaim := { program := "ytkkfnmlomjlckaa", sum := "e9fc3ae9ec95574aba70e51c43dab69167e63947fb0b68e927bfa07f2aa52c96", func := "loop.example/g01045/laws.FnExactSameAbbrs", spec := "fnExactSameAbbrs", apart := false }
def FnExactSameAbbrsSaid : Prop := fnExactSameAbbrsRow.holds Try.pinned (OpenSpec.ofChange fnExactSameAbbrsSpec)

/-- ITS FALSE NEIGHBOUR: 'it returns false'. Refute it at one input. -/
def fnExactSameAbbrsWrong : ChangeSpec := { name := "fnExactSameAbbrs", fn := fun _ => fun
  | [d1, d2] => { results := [.lit (.bool false)], args := [d1, d2] }
  | _ => none }
def FnExactSameAbbrsWrongFalsely : Prop := fnExactSameAbbrsRow.holds Try.pinned (OpenSpec.ofChange fnExactSameAbbrsWrong)

/-- 'laws.FnExactAddAbbr': WHATEVER THE INPUT: true; the input reads as it did. -/
def fnExactAddAbbrSpec : ChangeSpec := { name := "fnExactAddAbbr", fn := fun _ => fun
  | [d1, d2] => { results := [.lit (.bool true)], args := [d1, d2] }
  | _ => none }
def fnExactAddAbbrRow : OpenClaim := { program := "ytkkfnmlomjlckaa", sum := "e9fc3ae9ec95574aba70e51c43dab69167e63947fb0b68e927bfa07f2aa52c96", func := "loop.example/g01045/laws.FnExactAddAbbr", spec := "fnExactAddAbbr", apart := false }
def FnExactAddAbbrSaid : Prop := fnExactAddAbbrRow.holds Try.pinned (OpenSpec.ofChange fnExactAddAbbrSpec)

/-- ITS FALSE NEIGHBOUR: 'it returns false'. Refute it at one input. -/
def fnExactAddAbbrWrong : ChangeSpec := { name := "fnExactAddAbbr", fn := fun _ => fun
  | [d1, d2] => { results := [.lit (.bool false)], args := [d1, d2] }
  | _ => none }
def FnExactAddAbbrWrongFalsely : Prop := fnExactAddAbbrRow.holds Try.pinned (OpenSpec.ofChange fnExactAddAbbrWrong)

/-- 'laws.FnExactDoubtfulAbbrs': WHATEVER THE INPUT: true; the input reads as it did. -/
def fnExactDoubtfulAbbrsSpec : ChangeSpec := { name := "fnExactDoubtfulAbbrs", fn := fun _ => fun
  | [d] => { results := [.lit (.bool true)], args := [d] }
  | _ => none }
def fnExactDoubtfulAbbrsRow : OpenClaim := { program := "ytkkfnmlomjlckaa", sum := "e9fc3ae9ec95574aba70e51c43dab69167e63947fb0b68e927bfa07f2aa52c96", func := "loop.example/g01045/laws.FnExactDoubtfulAbbrs", spec := "fnExactDoubtfulAbbrs", apart := false }
def FnExactDoubtfulAbbrsSaid : Prop := fnExactDoubtfulAbbrsRow.holds Try.pinned (OpenSpec.ofChange fnExactDoubtfulAbbrsSpec)

/-- ITS FALSE NEIGHBOUR: 'it returns false'. Refute it at one input. -/
def fnExactDoubtfulAbbrsWrong : ChangeSpec := { name := "fnExactDoubtfulAbbrs", fn := fun _ => fun
  | [d] => { results := [.lit (.bool false)], args := [d] }
  | _ => none }
def FnExactDoubtfulAbbrsWrongFalsely : Prop := fnExactDoubtfulAbbrsRow.holds Try.pinned (OpenSpec.ofChange fnExactDoubtfulAbbrsWrong)

/-- 'laws.FnExactWordFor': WHATEVER THE INPUT: true; the input reads as it did. -/
def fnExactWordForSpec : ChangeSpec := { name := "fnExactWordFor", fn := fun _ => fun
  | [d1, d2] => { results := [.lit (.bool true)], args := [d1, d2] }
  | _ => none }
def fnExactWordForRow : OpenClaim := { program := "ytkkfnmlomjlckaa", sum := "e9fc3ae9ec95574aba70e51c43dab69167e63947fb0b68e927bfa07f2aa52c96", func := "loop.example/g01045/laws.FnExactWordFor", spec := "fnExactWordFor", apart := false }
def FnExactWordForSaid : Prop := fnExactWordForRow.holds Try.pinned (OpenSpec.ofChange fnExactWordForSpec)

/-- ITS FALSE NEIGHBOUR: 'it returns false'. Refute it at one input. -/
def fnExactWordForWrong : ChangeSpec := { name := "fnExactWordFor", fn := fun _ => fun
  | [d1, d2] => { results := [.lit (.bool false)], args := [d1, d2] }
  | _ => none }
def FnExactWordForWrongFalsely : Prop := fnExactWordForRow.holds Try.pinned (OpenSpec.ofChange fnExactWordForWrong)

/-- 'laws.FnExactShortestStarts': WHATEVER THE INPUT: true; the input reads as it did. -/
def fnExactShortestStartsSpec : ChangeSpec := { name := "fnExactShortestStarts", fn := fun _ => fun
  | [d] => { results := [.lit (.bool true)], args := [d] }
  | _ => none }
def fnExactShortestStartsRow : OpenClaim := { program := "ytkkfnmlomjlckaa", sum := "e9fc3ae9ec95574aba70e51c43dab69167e63947fb0b68e927bfa07f2aa52c96", func := "loop.example/g01045/laws.FnExactShortestStarts", spec := "fnExactShortestStarts", apart := false }
def FnExactShortestStartsSaid : Prop := fnExactShortestStartsRow.holds Try.pinned (OpenSpec.ofChange fnExactShortestStartsSpec)

/-- ITS FALSE NEIGHBOUR: 'it returns false'. Refute it at one input. -/
def fnExactShortestStartsWrong : ChangeSpec := { name := "fnExactShortestStarts", fn := fun _ => fun
  | [d] => { results := [.lit (.bool false)], args := [d] }
  | _ => none }
def FnExactShortestStartsWrongFalsely : Prop := fnExactShortestStartsRow.holds Try.pinned (OpenSpec.ofChange fnExactShortestStartsWrong)

/-- 'laws.FnExactExpandText': WHATEVER THE INPUT: true; the input reads as it did. -/
def fnExactExpandTextSpec : ChangeSpec := { name := "fnExactExpandText", fn := fun _ => fun
  | [d1, d2] => { results := [.lit (.bool true)], args := [d1, d2] }
  | _ => none }
def fnExactExpandTextRow : OpenClaim := { program := "ytkkfnmlomjlckaa", sum := "e9fc3ae9ec95574aba70e51c43dab69167e63947fb0b68e927bfa07f2aa52c96", func := "loop.example/g01045/laws.FnExactExpandText", spec := "fnExactExpandText", inPlace := ["internal/abi.NoEscape", "internal/bytealg.MakeNoZero"], apart := false }
def FnExactExpandTextSaid : Prop := fnExactExpandTextRow.holds Try.pinned (OpenSpec.ofChange fnExactExpandTextSpec)

/-- ITS FALSE NEIGHBOUR: 'it returns false'. Refute it at one input. -/
def fnExactExpandTextWrong : ChangeSpec := { name := "fnExactExpandText", fn := fun _ => fun
  | [d1, d2] => { results := [.lit (.bool false)], args := [d1, d2] }
  | _ => none }
def FnExactExpandTextWrongFalsely : Prop := fnExactExpandTextRow.holds Try.pinned (OpenSpec.ofChange fnExactExpandTextWrong)

/-- 'laws.FnExactShortenText': WHATEVER THE INPUT: true; the input reads as it did. -/
def fnExactShortenTextSpec : ChangeSpec := { name := "fnExactShortenText", fn := fun _ => fun
  | [d1, d2] => { results := [.lit (.bool true)], args := [d1, d2] }
  | _ => none }
def fnExactShortenTextRow : OpenClaim := { program := "ytkkfnmlomjlckaa", sum := "e9fc3ae9ec95574aba70e51c43dab69167e63947fb0b68e927bfa07f2aa52c96", func := "loop.example/g01045/laws.FnExactShortenText", spec := "fnExactShortenText", inPlace := ["internal/abi.NoEscape", "internal/bytealg.MakeNoZero"], apart := false }
def FnExactShortenTextSaid : Prop := fnExactShortenTextRow.holds Try.pinned (OpenSpec.ofChange fnExactShortenTextSpec)

/-- ITS FALSE NEIGHBOUR: 'it returns false'. Refute it at one input. -/
def fnExactShortenTextWrong : ChangeSpec := { name := "fnExactShortenText", fn := fun _ => fun
  | [d1, d2] => { results := [.lit (.bool false)], args := [d1, d2] }
  | _ => none }
def FnExactShortenTextWrongFalsely : Prop := fnExactShortenTextRow.holds Try.pinned (OpenSpec.ofChange fnExactShortenTextWrong)

/-- 'laws.FnExactSavedLetters': WHATEVER THE INPUT: true; the input reads as it did. -/
def fnExactSavedLettersSpec : ChangeSpec := { name := "fnExactSavedLetters", fn := fun _ => fun
  | [d1, d2] => { results := [.lit (.bool true)], args := [d1, d2] }
  | _ => none }
def fnExactSavedLettersRow : OpenClaim := { program := "ytkkfnmlomjlckaa", sum := "e9fc3ae9ec95574aba70e51c43dab69167e63947fb0b68e927bfa07f2aa52c96", func := "loop.example/g01045/laws.FnExactSavedLetters", spec := "fnExactSavedLetters", inPlace := ["internal/abi.NoEscape", "internal/bytealg.MakeNoZero"], apart := false }
def FnExactSavedLettersSaid : Prop := fnExactSavedLettersRow.holds Try.pinned (OpenSpec.ofChange fnExactSavedLettersSpec)

/-- ITS FALSE NEIGHBOUR: 'it returns false'. Refute it at one input. -/
def fnExactSavedLettersWrong : ChangeSpec := { name := "fnExactSavedLetters", fn := fun _ => fun
  | [d1, d2] => { results := [.lit (.bool false)], args := [d1, d2] }
  | _ => none }
def FnExactSavedLettersWrongFalsely : Prop := fnExactSavedLettersRow.holds Try.pinned (OpenSpec.ofChange fnExactSavedLettersWrong)

/- THE SECOND FORM. 'bulk': how many values and letters a reading holds, each counted each time it is reached (what is shared counts as often as it is met; a slice's spare places count too). A statement '..UptoSaid' is the law's where the arguments, and the package variables that the reading takes, are together of bulk at most 1048576: NARROWER than '..Said'. Prove '..Said' where nothing that the law and all that it calls make is longer than what came in: it says more and counts as full. Else prove '..UptoSaid'. A law counts once. -/
mutual
def uptoBulk {H : Type} : DataW H → Nat
  | .lit (.string bytes) => bytes.length + 1
  | .lit _ => 1
  | .nil => 1
  | .ptr d => uptoBulk d + 1
  | .slice elems spare => uptoBulkAll elems + uptoBulkAll spare + 1
  | .agg parts => uptoBulkAll parts + 1
  | .iface _ d => uptoBulk d + 1
  | .map entries => uptoBulkEntries entries + 1
  | .held _ => 1
def uptoBulkAll {H : Type} : List (DataW H) → Nat
  | [] => 0
  | d :: r => uptoBulk d + uptoBulkAll r
def uptoBulkEntries {H : Type} : List (Lit × DataW H) → Nat
  | [] => 0
  | x :: r => uptoBulkEntry x + uptoBulkEntries r
def uptoBulkEntry {H : Type} : Lit × DataW H → Nat
  | (.string bytes, d) => bytes.length + uptoBulk d + 1
  | (_, d) => uptoBulk d + 1
 end
def uptoSmall : (H : Type) → List (DataW H) → Bool := fun _ ds => decide (uptoBulkAll ds ≤ 1048576)
def OpenSpec.upto (s : _root_.Go.ChangeSpec) : _root_.Go.OpenSpec := { _root_.Go.OpenSpec.ofChange s with cond := some uptoSmall }

/-- 'laws.FnExactAbbrText', WHERE WHAT IT READS IS OF BULK AT MOST 1048576: true; the input reads as it did. -/
def fnExactAbbrTextUptoRow : OpenClaim := { program := "ytkkfnmlomjlckaa", sum := "e9fc3ae9ec95574aba70e51c43dab69167e63947fb0b68e927bfa07f2aa52c96", func := "loop.example/g01045/laws.FnExactAbbrText", spec := "fnExactAbbrText", apart := false, narrowed := true }
def FnExactAbbrTextUptoSaid : Prop := fnExactAbbrTextUptoRow.holds Try.pinned (OpenSpec.upto fnExactAbbrTextSpec)

/-- 'laws.FnExactReadAbbr', WHERE WHAT IT READS IS OF BULK AT MOST 1048576: true; the input reads as it did. -/
def fnExactReadAbbrUptoRow : OpenClaim := { program := "ytkkfnmlomjlckaa", sum := "e9fc3ae9ec95574aba70e51c43dab69167e63947fb0b68e927bfa07f2aa52c96", func := "loop.example/g01045/laws.FnExactReadAbbr", spec := "fnExactReadAbbr", apart := false, narrowed := true }
def FnExactReadAbbrUptoSaid : Prop := fnExactReadAbbrUptoRow.holds Try.pinned (OpenSpec.upto fnExactReadAbbrSpec)

/-- 'laws.FnExactValidAbbrs', WHERE WHAT IT READS IS OF BULK AT MOST 1048576: true; the input reads as it did. -/
def fnExactValidAbbrsUptoRow : OpenClaim := { program := "ytkkfnmlomjlckaa", sum := "e9fc3ae9ec95574aba70e51c43dab69167e63947fb0b68e927bfa07f2aa52c96", func := "loop.example/g01045/laws.FnExactValidAbbrs", spec := "fnExactValidAbbrs", apart := false, narrowed := true }
def FnExactValidAbbrsUptoSaid : Prop := fnExactValidAbbrsUptoRow.holds Try.pinned (OpenSpec.upto fnExactValidAbbrsSpec)

/-- 'laws.FnExactSameAbbrs', WHERE WHAT IT READS IS OF BULK AT MOST 1048576: true; the input reads as it did. -/
def fnExactSameAbbrsUptoRow : OpenClaim := { program := "ytkkfnmlomjlckaa", sum := "e9fc3ae9ec95574aba70e51c43dab69167e63947fb0b68e927bfa07f2aa52c96", func := "loop.example/g01045/laws.FnExactSameAbbrs", spec := "fnExactSameAbbrs", apart := false, narrowed := true }
def FnExactSameAbbrsUptoSaid : Prop := fnExactSameAbbrsUptoRow.holds Try.pinned (OpenSpec.upto fnExactSameAbbrsSpec)

/-- 'laws.FnExactAddAbbr', WHERE WHAT IT READS IS OF BULK AT MOST 1048576: true; the input reads as it did. -/
def fnExactAddAbbrUptoRow : OpenClaim := { program := "ytkkfnmlomjlckaa", sum := "e9fc3ae9ec95574aba70e51c43dab69167e63947fb0b68e927bfa07f2aa52c96", func := "loop.example/g01045/laws.FnExactAddAbbr", spec := "fnExactAddAbbr", apart := false, narrowed := true }
def FnExactAddAbbrUptoSaid : Prop := fnExactAddAbbrUptoRow.holds Try.pinned (OpenSpec.upto fnExactAddAbbrSpec)

/-- 'laws.FnExactDoubtfulAbbrs', WHERE WHAT IT READS IS OF BULK AT MOST 1048576: true; the input reads as it did. -/
def fnExactDoubtfulAbbrsUptoRow : OpenClaim := { program := "ytkkfnmlomjlckaa", sum := "e9fc3ae9ec95574aba70e51c43dab69167e63947fb0b68e927bfa07f2aa52c96", func := "loop.example/g01045/laws.FnExactDoubtfulAbbrs", spec := "fnExactDoubtfulAbbrs", apart := false, narrowed := true }
def FnExactDoubtfulAbbrsUptoSaid : Prop := fnExactDoubtfulAbbrsUptoRow.holds Try.pinned (OpenSpec.upto fnExactDoubtfulAbbrsSpec)

/-- 'laws.FnExactWordFor', WHERE WHAT IT READS IS OF BULK AT MOST 1048576: true; the input reads as it did. -/
def fnExactWordForUptoRow : OpenClaim := { program := "ytkkfnmlomjlckaa", sum := "e9fc3ae9ec95574aba70e51c43dab69167e63947fb0b68e927bfa07f2aa52c96", func := "loop.example/g01045/laws.FnExactWordFor", spec := "fnExactWordFor", apart := false, narrowed := true }
def FnExactWordForUptoSaid : Prop := fnExactWordForUptoRow.holds Try.pinned (OpenSpec.upto fnExactWordForSpec)

/-- 'laws.FnExactShortestStarts', WHERE WHAT IT READS IS OF BULK AT MOST 1048576: true; the input reads as it did. -/
def fnExactShortestStartsUptoRow : OpenClaim := { program := "ytkkfnmlomjlckaa", sum := "e9fc3ae9ec95574aba70e51c43dab69167e63947fb0b68e927bfa07f2aa52c96", func := "loop.example/g01045/laws.FnExactShortestStarts", spec := "fnExactShortestStarts", apart := false, narrowed := true }
def FnExactShortestStartsUptoSaid : Prop := fnExactShortestStartsUptoRow.holds Try.pinned (OpenSpec.upto fnExactShortestStartsSpec)

/-- 'laws.FnExactExpandText', WHERE WHAT IT READS IS OF BULK AT MOST 1048576: true; the input reads as it did. -/
def fnExactExpandTextUptoRow : OpenClaim := { program := "ytkkfnmlomjlckaa", sum := "e9fc3ae9ec95574aba70e51c43dab69167e63947fb0b68e927bfa07f2aa52c96", func := "loop.example/g01045/laws.FnExactExpandText", spec := "fnExactExpandText", inPlace := ["internal/abi.NoEscape", "internal/bytealg.MakeNoZero"], apart := false, narrowed := true }
def FnExactExpandTextUptoSaid : Prop := fnExactExpandTextUptoRow.holds Try.pinned (OpenSpec.upto fnExactExpandTextSpec)

/-- 'laws.FnExactShortenText', WHERE WHAT IT READS IS OF BULK AT MOST 1048576: true; the input reads as it did. -/
def fnExactShortenTextUptoRow : OpenClaim := { program := "ytkkfnmlomjlckaa", sum := "e9fc3ae9ec95574aba70e51c43dab69167e63947fb0b68e927bfa07f2aa52c96", func := "loop.example/g01045/laws.FnExactShortenText", spec := "fnExactShortenText", inPlace := ["internal/abi.NoEscape", "internal/bytealg.MakeNoZero"], apart := false, narrowed := true }
def FnExactShortenTextUptoSaid : Prop := fnExactShortenTextUptoRow.holds Try.pinned (OpenSpec.upto fnExactShortenTextSpec)

/-- 'laws.FnExactSavedLetters', WHERE WHAT IT READS IS OF BULK AT MOST 1048576: true; the input reads as it did. -/
def fnExactSavedLettersUptoRow : OpenClaim := { program := "ytkkfnmlomjlckaa", sum := "e9fc3ae9ec95574aba70e51c43dab69167e63947fb0b68e927bfa07f2aa52c96", func := "loop.example/g01045/laws.FnExactSavedLetters", spec := "fnExactSavedLetters", inPlace := ["internal/abi.NoEscape", "internal/bytealg.MakeNoZero"], apart := false, narrowed := true }
def FnExactSavedLettersUptoSaid : Prop := fnExactSavedLettersUptoRow.holds Try.pinned (OpenSpec.upto fnExactSavedLettersSpec)

end Rows
end Go.Proofs.Ytkkfnmlomjlckaa
