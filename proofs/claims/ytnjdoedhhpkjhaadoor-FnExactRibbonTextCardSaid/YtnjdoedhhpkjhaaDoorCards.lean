/-
  DERIVED. GIVEN WITH THE SEED: THE CARDS: each row of YtnjdoedhhpkjhaaDoorRows.lean that lists a variable, with what it lists TIED to the program's text (the seventh form; the later family's looks); each row that meets fmt, with fmt's text TOLD by the authors' own Lean function (tested against real Go, not proved from fmt's source: count such statements apart). THE CARD IS WHAT COUNTS. Prove the row's statement (the work); the ties are given (YtnjdoedhhpkjhaaDoorTie.lean); close each card by the builder's one call (the guide's Derived/Test/ToyasCard.lean, 'card_holds'). Laid BY PROGRAM, IN A SANDBOX (cutbox-door.mjs). By AI agents, Wed Nov 11 2026. No macro, syntax, notation, axiom, sorry.
-/
import Derived.Test.YtnjdoedhhpkjhaaDoorRows
import GoSem.ClaimSeven
namespace Go.Proofs.YtnjdoedhhpkjhaaDoor
namespace Rows

/-- THE TIED CARD OF 'laws.FnExactRibbonText'. -/
def fnExactRibbonTextCard : Claim7 := { stood := { row := fnExactRibbonTextRow, standIns := [], harness := (true, "ae80f923ed4e88c155e6a3c8f478be5dbc69f9937feba92ee71750900dac1de1"), looks := false }, kinds := [], alts := [], laidByText := true, laidKinds := [.data, .data, .data], laidTests := true, laidLooks := .later }
def FnExactRibbonTextCardSaid : Prop := Claim7.holds Tryd.pinned (.plain (OpenSpec.ofChange fnExactRibbonTextSpec)) fnExactRibbonTextCard

/-- THE SECOND FORM's CARD OF 'laws.FnExactRibbonText'. -/
def fnExactRibbonTextUptoCard : Claim7 := { stood := { row := fnExactRibbonTextUptoRow, standIns := [], harness := (true, "ae80f923ed4e88c155e6a3c8f478be5dbc69f9937feba92ee71750900dac1de1"), looks := false }, kinds := [], alts := [], laidByText := true, laidKinds := [.data, .data, .data], laidTests := true, laidLooks := .later }
def FnExactRibbonTextUptoCardSaid : Prop := Claim7.holds Tryd.pinned (.plain (OpenSpec.upto fnExactRibbonTextSpec)) fnExactRibbonTextUptoCard
end Rows
end Go.Proofs.YtnjdoedhhpkjhaaDoor
