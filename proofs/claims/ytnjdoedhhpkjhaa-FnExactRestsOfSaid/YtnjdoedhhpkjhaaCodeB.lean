/-
  The law of codes: the walk.
-/
import Derived.Test.YtnjdoedhhpkjhaaCodeA
namespace Go.Proofs.Ytnjdoedhhpkjhaa
open Go.RowKit Go.ChangeShapes Go.WideShapes Go.Maps
set_option linter.unusedVariables false
attribute [local go_sem ↓] Go.wp_at_zero Go.wp_at_succ

theorem owns_cap {w : World} {B : Nat} {E : TypeId} {size : Nat} {ao : Option Addr} {n cap m : Nat} {xs : List Value} (h : w.ownsRow B E size (.slice ao n cap) m xs) : n ≤ cap ∧ cap ≤ maxLen := by
  rcases owns_form h with ⟨hv, _, _⟩ | ⟨g, c, hv, _, _, hc, hm⟩
  · simp only [Value.slice.injEq] at hv
    obtain ⟨rfl, rfl, rfl⟩ := hv
    exact ⟨Nat.le_refl _, Nat.zero_le _⟩
  · simp only [Value.slice.injEq] at hv
    obtain ⟨rfl, rfl, rfl⟩ := hv
    exact ⟨hc, hm⟩
end Go.Proofs.Ytnjdoedhhpkjhaa
