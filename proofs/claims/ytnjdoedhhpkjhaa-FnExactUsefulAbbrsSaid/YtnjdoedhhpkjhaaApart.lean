/-
  Rows that lie apart.
-/
import Derived.Test.YtnjdoedhhpkjhaaMem
namespace Go.Proofs.Ytnjdoedhhpkjhaa
open Go.RowKit
set_option linter.unusedVariables false
attribute [local go_sem ↓] Go.wp_at_zero Go.wp_at_succ

theorem owns_apart {w1 w2 : World} {B1 : Nat} {E1 E2 : TypeId} {z1 z2 : Nat} {v1 v2 : Value} {n1 n2 : Nat} {x1 x2 : List Value} (h1 : w1.ownsRow B1 E1 z1 v1 n1 x1) (h2 : w2.ownsRow w1.heap.size E2 z2 v2 n2 x2) : v1.ownBlock = none ∨ v1.ownBlock ≠ v2.ownBlock := by
  cases hv : v1.ownBlock with
  | none => exact .inl rfl
  | some k =>
    right
    intro he
    have a := (h1.lt k hv).2
    have b := (h2.lt k he.symm).1
    omega
theorem owns_apart2 {w1 w2 : World} {B1 : Nat} {E1 E2 : TypeId} {z1 z2 : Nat} {v1 v2 : Value} {n1 n2 : Nat} {x1 x2 : List Value} (h1 : w1.ownsRow B1 E1 z1 v1 n1 x1) (h2 : w2.ownsRow w1.heap.size E2 z2 v2 n2 x2) : v2.ownBlock = none ∨ v2.ownBlock ≠ v1.ownBlock := by
  cases hv : v2.ownBlock with
  | none => exact .inl rfl
  | some k =>
    right
    intro he
    have a := (h1.lt k he.symm).2
    have b := (h2.lt k hv).1
    omega
theorem owns_far_old {w1 : World} {B : Nat} {E : TypeId} {z : Nat} {v : Value} {n : Nat} {x : List Value} {a : Nat} (h : w1.ownsRow B E z v n x) (ha : a < B) : v.ownBlock ≠ some a := by
  intro he
  have := (h.lt a he).1
  omega
theorem owns_far_new {w1 : World} {B : Nat} {E : TypeId} {z : Nat} {v : Value} {n : Nat} {x : List Value} {a : Nat} (h : w1.ownsRow B E z v n x) (ha : w1.heap.size ≤ a) : v.ownBlock ≠ some a := by
  intro he
  have := (h.lt a he).2
  omega
theorem cell_far {w w' : World} {v : Value} {a k : Nat} {u : Value} (hg : w.grownBy w' v.ownBlock) (hl : a < w.heap.size) (hne : v.ownBlock ≠ some a) (hc : w.cell? ⟨a, k, none⟩ = some u) : w'.cell? ⟨a, k, none⟩ = some u := by
  rw [← hc]
  exact World.cell?_of_block (hg.block a hl (fun e => hne e.symm))
end Go.Proofs.Ytnjdoedhhpkjhaa
