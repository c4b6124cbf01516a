/-
  No cell of these rows narrows 'for every input' (looked for: loops, veiled, ifaces, maps, wideKeys, modest, calm, conditions, laid).
  DERIVED. THE GIVEN ROWS OF THIS SEAT. 3 by the template 'for every input the law returns true; each argument reads behind the call as it read before'; 0 by the template 'total and deterministic' (their statements: YtnjdoedhhpkjhaaTotals.lean).
  GIVEN WITH THE SEED: the statements are not yours to turn. If you find one false, say at which input.
  Laid BY PROGRAM, IN A SANDBOX (cutbox-rows.mjs): the forced cells as the released guide's own fill.sh prints them over the translation 60b286758a13f46d… (all of the seat's roots in one cut). By AI agents, Wed Nov 11 2026. No macro, syntax, notation, axiom, sorry.
-/
import Derived.Test.YtnjdoedhhpkjhaaChecked
import GoSem.Claim
import GoSem.ClaimJoined
import GoSem.ClaimMapViews
import Derived.JoinedTies
import Derived.KernelRfl
namespace Go.Proofs.Ytnjdoedhhpkjhaa
/- THE CELL 'sum', in the pinned program and in every row, IS THE sha256 OF THE DUMP (.gsa) THAT YtnjdoedhhpkjhaaProg.lean LOADS. Nothing in Lean hashes anything: it is a label: what it is worth is what the hold of that sum in a sandbox is worth. -/
noncomputable def Try.pinned : Pinned := { name := "ytnjdoedhhpkjhaa", sum := "60b286758a13f46df8e73d92b775578da52ca39398d0aa265fa30d266caa6176", checked := Try.checked }
namespace Rows
def none {H : Type} : Left H := { results := [], args := [] }

/-- 'laws.FnExactUsefulAbbrs': WHATEVER THE INPUT: true; the input reads as it did. -/
def fnExactUsefulAbbrsSpec : ChangeSpec := { name := "fnExactUsefulAbbrs", fn := fun _ => fun
  | [d1, d2] => { results := [.lit (.bool true)], args := [d1, d2] }
  | _ => none }
def fnExactUsefulAbbrsRow : OpenClaim := { program := "ytnjdoedhhpkjhaa", sum := "60b286758a13f46df8e73d92b775578da52ca39398d0aa265fa30d266caa6176", func := "loop.example/g01045/laws.FnExactUsefulAbbrs", spec := "fnExactUsefulAbbrs", inPlace := ["internal/abi.NoEscape", "internal/bytealg.MakeNoZero", "internal/reflectlite.ValueOf", "internal/reflectlite.Swapper", "(internal/reflectlite.Value).Len"], unfollowed := true, recurses := true, plainKeys := false, apart := false }
def FnExactUsefulAbbrsSaid : Prop := fnExactUsefulAbbrsRow.holds Try.pinned (OpenSpec.ofChange fnExactUsefulAbbrsSpec)

/-- ITS FALSE NEIGHBOUR: 'it returns false'. Refute it at one input. -/
def fnExactUsefulAbbrsWrong : ChangeSpec := { name := "fnExactUsefulAbbrs", fn := fun _ => fun
  | [d1, d2] => { results := [.lit (.bool false)], args := [d1, d2] }
  | _ => none }
def FnExactUsefulAbbrsWrongFalsely : Prop := fnExactUsefulAbbrsRow.holds Try.pinned (OpenSpec.ofChange fnExactUsefulAbbrsWrong)

/-- 'laws.FnExactRestsOf': WHATEVER THE INPUT: true; the input reads as it did. -/
def fnExactRestsOfSpec : ChangeSpec := { name := "fnExactRestsOf", fn := fun _ => fun
  | [d] => { results := [.lit (.bool true)], args := [d] }
  | _ => none }
def fnExactRestsOfRow : OpenClaim := { program := "ytnjdoedhhpkjhaa", sum := "60b286758a13f46df8e73d92b775578da52ca39398d0aa265fa30d266caa6176", func := "loop.example/g01045/laws.FnExactRestsOf", spec := "fnExactRestsOf", recurses := true, plainKeys := false, apart := false }
def FnExactRestsOfSaid : Prop := fnExactRestsOfRow.holds Try.pinned (OpenSpec.ofChange fnExactRestsOfSpec)

/-- ITS FALSE NEIGHBOUR: 'it returns false'. Refute it at one input. -/
def fnExactRestsOfWrong : ChangeSpec := { name := "fnExactRestsOf", fn := fun _ => fun
  | [d] => { results := [.lit (.bool false)], args := [d] }
  | _ => none }
def FnExactRestsOfWrongFalsely : Prop := fnExactRestsOfRow.holds Try.pinned (OpenSpec.ofChange fnExactRestsOfWrong)

/-- 'laws.FnExactRareFaults': WHATEVER THE INPUT: true; the input reads as it did. -/
def fnExactRareFaultsSpec : ChangeSpec := { name := "fnExactRareFaults", fn := fun _ => fun
  | [d] => { results := [.lit (.bool true)], args := [d] }
  | _ => none }
def fnExactRareFaultsRow : OpenClaim := { program := "ytnjdoedhhpkjhaa", sum := "60b286758a13f46df8e73d92b775578da52ca39398d0aa265fa30d266caa6176", func := "loop.example/g01045/laws.FnExactRareFaults", spec := "fnExactRareFaults", inPlace := ["internal/reflectlite.ValueOf", "internal/reflectlite.Swapper", "(internal/reflectlite.Value).Len"], unfollowed := true, recurses := true, plainKeys := false, apart := false }
def FnExactRareFaultsSaid : Prop := fnExactRareFaultsRow.holds Try.pinned (OpenSpec.ofChange fnExactRareFaultsSpec)

/-- ITS FALSE NEIGHBOUR: 'it returns false'. Refute it at one input. -/
def fnExactRareFaultsWrong : ChangeSpec := { name := "fnExactRareFaults", fn := fun _ => fun
  | [d] => { results := [.lit (.bool false)], args := [d] }
  | _ => none }
def FnExactRareFaultsWrongFalsely : Prop := fnExactRareFaultsRow.holds Try.pinned (OpenSpec.ofChange fnExactRareFaultsWrong)

/- THE SECOND FORM. 'bulk': how many values and letters a reading holds, each counted each time it is reached (what is shared counts as often as it is met; a slice's spare places count too). A statement '..UptoSaid' is the law's where the arguments, and the package variables that the reading takes, are together of bulk at most 1048576: NARROWER than '..Said'. Prove '..Said' where nothing that the law and all that it calls make is longer than what came in: it says more and counts as full. Else prove '..UptoSaid'. A law counts once. -/
mutual
def uptoBulk {H : Type} : DataW H → Nat
  | .lit (.string bytes) => bytes.length + 1
  | .lit _ => 1
  | .nil => 1
  | .ptr d => uptoBulk d + 1
  | .slice elems spare => uptoBulkAll elems + uptoBulkAll spare + 1
  | .agg parts => uptoBulkAll parts + 1
  | .iface _ d => uptoBulk d + 1
  | .map entries => uptoBulkEntries entries + 1
  | .held _ => 1
def uptoBulkAll {H : Type} : List (DataW H) → Nat
  | [] => 0
  | d :: r => uptoBulk d + uptoBulkAll r
def uptoBulkEntries {H : Type} : List (Lit × DataW H) → Nat
  | [] => 0
  | x :: r => uptoBulkEntry x + uptoBulkEntries r
def uptoBulkEntry {H : Type} : Lit × DataW H → Nat
  | (.string bytes, d) => bytes.length + uptoBulk d + 1
  | (_, d) => uptoBulk d + 1
 end
def uptoSmall : (H : Type) → List (DataW H) → Bool := fun _ ds => decide (uptoBulkAll ds ≤ 1048576)
def OpenSpec.upto (s : _root_.Go.ChangeSpec) : _root_.Go.OpenSpec := { _root_.Go.OpenSpec.ofChange s with cond := some uptoSmall }

/-- 'laws.FnExactUsefulAbbrs', WHERE WHAT IT READS IS OF BULK AT MOST 1048576: true; the input reads as it did. -/
def fnExactUsefulAbbrsUptoRow : OpenClaim := { program := "ytnjdoedhhpkjhaa", sum := "60b286758a13f46df8e73d92b775578da52ca39398d0aa265fa30d266caa6176", func := "loop.example/g01045/laws.FnExactUsefulAbbrs", spec := "fnExactUsefulAbbrs", inPlace := ["internal/abi.NoEscape", "internal/bytealg.MakeNoZero", "internal/reflectlite.ValueOf", "internal/reflectlite.Swapper", "(internal/reflectlite.Value).Len"], unfollowed := true, recurses := true, plainKeys := false, apart := false, narrowed := true }
def FnExactUsefulAbbrsUptoSaid : Prop := fnExactUsefulAbbrsUptoRow.holds Try.pinned (OpenSpec.upto fnExactUsefulAbbrsSpec)

/-- 'laws.FnExactRestsOf', WHERE WHAT IT READS IS OF BULK AT MOST 1048576: true; the input reads as it did. -/
def fnExactRestsOfUptoRow : OpenClaim := { program := "ytnjdoedhhpkjhaa", sum := "60b286758a13f46df8e73d92b775578da52ca39398d0aa265fa30d266caa6176", func := "loop.example/g01045/laws.FnExactRestsOf", spec := "fnExactRestsOf", recurses := true, plainKeys := false, apart := false, narrowed := true }
def FnExactRestsOfUptoSaid : Prop := fnExactRestsOfUptoRow.holds Try.pinned (OpenSpec.upto fnExactRestsOfSpec)

/-- 'laws.FnExactRareFaults', WHERE WHAT IT READS IS OF BULK AT MOST 1048576: true; the input reads as it did. -/
def fnExactRareFaultsUptoRow : OpenClaim := { program := "ytnjdoedhhpkjhaa", sum := "60b286758a13f46df8e73d92b775578da52ca39398d0aa265fa30d266caa6176", func := "loop.example/g01045/laws.FnExactRareFaults", spec := "fnExactRareFaults", inPlace := ["internal/reflectlite.ValueOf", "internal/reflectlite.Swapper", "(internal/reflectlite.Value).Len"], unfollowed := true, recurses := true, plainKeys := false, apart := false, narrowed := true }
def FnExactRareFaultsUptoSaid : Prop := fnExactRareFaultsUptoRow.holds Try.pinned (OpenSpec.upto fnExactRareFaultsSpec)

end Rows
end Go.Proofs.Ytnjdoedhhpkjhaa
