/-
  Plain facts: the library's join is ours. No program in sight.
-/
import Derived.Test.YtnjdoedhhpkjhaaJoinLay
namespace Go.Proofs.Ytnjdoedhhpkjhaa
set_option linter.unusedVariables false

theorem join_same : ∀ (L : List (List UInt8)), Lib.join L [32] = joinP L
  | [] => rfl
  | [x] => by rw [Lib.join_one]; rfl
  | x :: y :: r => by
    have ih := join_same (y :: r)
    rw [joinP_cons _ _ (by simp), ← ih]
    simp [Lib.join]
end Go.Proofs.Ytnjdoedhhpkjhaa
