/-
  Walks of the laws' marks over slices of structs of two cells: marked and held.
-/
import Derived.Test.YtnjdoedhhpkjhaaMark
import Derived.Test.YtnjdoedhhpkjhaaSlSe
namespace Go.Proofs.Ytnjdoedhhpkjhaa
open Go.RowKit Go.ChangeShapes Go.WideShapes
set_option linter.unusedVariables false
attribute [local go_sem ↓] Go.wp_at_zero Go.wp_at_succ

theorem markTextI_any {k : Int} (j : Nat) (w : World) (hk : k = (j : Int)) (h1 : 1 ≤ j) (h2 : j ≤ 1073741824) : Calls Try.prog 40 #[.int .i64 k] w fun e w' => e = .returned (.string (mtxt j)) ∧ Below w.heap.size w w' := by
  subst hk; exact markText_any j w h1 h2
/-- the marks of so many elements -/
def marksSe (k0 n : Nat) : List Se := (List.range n).map fun j : Nat => (mtxt (k0 + 2 * j), ((k0 + 2 * j + 1 : Nat) : Int))
theorem marksSe_len (k0 n : Nat) : (marksSe k0 n).length = n := by simp [marksSe]
theorem marksSe_get (k0 n j : Nat) (h : j < (marksSe k0 n).length) : (marksSe k0 n)[j] = (mtxt (k0 + 2 * j), ((k0 + 2 * j + 1 : Nat) : Int)) := by simp [marksSe]
theorem marksSe_step (k0 j : Nat) (l : List Se) (h : j < l.length) : (marksSe k0 j ++ l.drop j).set j (mtxt (k0 + 2 * j), ((k0 + 2 * j + 1 : Nat) : Int)) = marksSe k0 (j + 1) ++ l.drop (j + 1) := by
  have e : l.drop j = l[j] :: l.drop (j + 1) := List.drop_eq_getElem_cons h
  rw [e, List.set_append_right _ _ (by simp [marksSe])]
  simp [marksSe, List.range_succ]
  rw [e]; rfl
theorem marksSe_bound (k0 j : Nat) (l : List Se) (h : j ≤ l.length) : (marksSe k0 j ++ l.drop j).length = l.length := by
  simp [marksSe]; omega


end Go.Proofs.Ytnjdoedhhpkjhaa
