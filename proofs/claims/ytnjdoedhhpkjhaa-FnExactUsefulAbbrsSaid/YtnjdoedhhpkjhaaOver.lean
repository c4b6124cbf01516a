/-
  A region that draws its order, whose operations only read and whose callees write nothing that was there (they may make memory): one walk, in the order of the text, serves every order.
-/
import Derived.Test.YtnjdoedhhpkjhaaMem
import Derived.WalkLawsBesides
namespace Go.Proofs.Ytnjdoedhhpkjhaa
open Go.RowKit
set_option linter.unusedVariables false

/-- a world in which all that was there is as it was -/
structure Over (w : World) where
  world : World
  below : Below w.heap.size w world
def over (w : World) (x : Over w) : World := x.world
instance (w : World) : Nonempty (Over w) := ⟨⟨w, Below.refl _ _⟩⟩
theorem over_cell {w : World} (x : Over w) (b o : Nat) (h : b < w.heap.size) : (over w x).cell? ⟨b, o, none⟩ = w.cell? ⟨b, o, none⟩ := x.below.cell (p := ⟨b, o, none⟩) h

theorem wp_region_over {P : Program} {id : Nat} {Q : Exit → Act → World → Prop} {a : Act} {w : World} {l : List Oper} (hm : P.follows .mixedOrders = true) (hB : Region.lexB .any l.toArray = true)
    (h : (∀ (x : Over w) (b o : Nat), b < w.heap.size → (over w x).cell? ⟨b, o, none⟩ = w.cell? ⟨b, o, none⟩) → wpQuiet P l.toArray (fun w' => ∃ x : Over w, w' = over w x) (fun a' => ∀ w', Below w.heap.size w w' → Q .normal a' w') l a) : (Code.region id l.toArray true).wp P Q a w := by
  refine wp_region_quiet (C := fun w' => ∃ x : Over w, w' = over w x) hm hB ⟨⟨w.drew, (Below.refl _ _).drew⟩, rfl⟩ ?_
  have h1 := h (fun x b o hb => over_cell x b o hb)
  have e : (fun a' => ∀ w', (∃ x : Over w, w' = over w x) → Q .normal a' w') = (fun a' => ∀ w', Below w.heap.size w w' → Q .normal a' w') := by
    funext a'
    apply propext
    constructor
    · intro k w' hb
      exact k w' ⟨⟨w', hb⟩, rfl⟩
    · rintro k w' ⟨x, rfl⟩
      exact k _ x.below
  rw [e]
  simpa using h1
/-- a callee's contract in such a world -/
theorem overCall {P : Program} {f : FuncId} {args : Array Value} {w : World} {x : Over w} {v : Value}
    (h : Calls P f args (over w x) fun e w' => e = .returned v ∧ Below (over w x).heap.size (over w x) w') : Calls P f args (over w x) fun e w'' => e = .returned v ∧ ∃ y : Over w, w'' = over w y :=
  h.mono fun _ w' ⟨he, hb⟩ => ⟨he, ⟨w', x.below.trans (hb.mono x.below.size)⟩, rfl⟩
theorem overSame {P : Program} {f : FuncId} {args : Array Value} {w : World} {x : Over w} {v : Value}
    (h : Calls P f args (over w x) fun e w' => e = .returned v ∧ over w x = w') : Calls P f args (over w x) fun e w'' => e = .returned v ∧ ∃ y : Over w, w'' = over w y :=
  h.mono fun _ w' ⟨he, hb⟩ => ⟨he, x, hb.symm⟩
end Go.Proofs.Ytnjdoedhhpkjhaa
