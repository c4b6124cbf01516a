/-
  Plain facts on the first number below n that meets a test. No program in sight.
-/
import Derived.RowKit
namespace Go.Proofs.Ytnjdoedhhpkjhaa
set_option linter.unusedVariables false

def firstAt (p : Nat → Bool) (n : Nat) : Option Nat := (List.range n).find? p
def NoneUpTo (p : Nat → Bool) (k : Nat) : Prop := ∀ j, j < k → p j = false
theorem none_zero (p : Nat → Bool) : NoneUpTo p 0 := fun j h => absurd h (Nat.not_lt_zero j)
theorem none_next {p : Nat → Bool} {k : Nat} (h : NoneUpTo p k) (hk : p k = false) : NoneUpTo p (k + 1) := fun j hj => by
  by_cases e : j = k
  · rw [e]; exact hk
  · exact h j (by omega)
theorem first_hit {p : Nat → Bool} {n k : Nat} (h : NoneUpTo p k) (hk : p k = true) (hn : k < n) : firstAt p n = some k := by
  unfold firstAt
  rw [List.find?_range_eq_some]
  exact ⟨hk, by simpa using hn, fun j hj => by simp [h j hj]⟩
theorem first_none {p : Nat → Bool} {n : Nat} (h : NoneUpTo p n) : firstAt p n = none := by
  unfold firstAt
  rw [List.find?_range_eq_none]
  intro j hj
  simp [h j (by simpa using hj)]
end Go.Proofs.Ytnjdoedhhpkjhaa
