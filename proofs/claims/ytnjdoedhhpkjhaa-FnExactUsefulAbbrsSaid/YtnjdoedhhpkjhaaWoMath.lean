/-
  Plain facts: the words of a text, joined and split. No program in sight.
-/
import Derived.Test.YtnjdoedhhpkjhaaSplit
namespace Go.Proofs.Ytnjdoedhhpkjhaa
set_option linter.unusedVariables false

/-- parts with a blank between them -/
def joinP : List (List UInt8) → List UInt8
  | [] => []
  | [x] => x
  | x :: y :: r => x ++ 32 :: joinP (y :: r)
theorem joinP_cons (x : List UInt8) (r : List (List UInt8)) (h : r ≠ []) : joinP (x :: r) = x ++ 32 :: joinP r := by
  cases r with
  | nil => exact absurd rfl h
  | cons y r => rfl
theorem joinP_snoc : ∀ (L : List (List UInt8)) (x : List UInt8), L ≠ [] → joinP (L ++ [x]) = joinP L ++ 32 :: x
  | [], _, h => absurd rfl h
  | [y], x, _ => rfl
  | y :: z :: r, x, _ => by
    have ih := joinP_snoc (z :: r) x (by simp)
    rw [List.cons_append, joinP_cons _ _ (by simp), ih, joinP_cons y (z :: r) (by simp)]
    simp
theorem joinP_more : ∀ (L : List (List UInt8)) (x : List UInt8) (c : UInt8), joinP (L ++ [x ++ [c]]) = joinP (L ++ [x]) ++ [c] := by
  intro L x c
  by_cases h : L = []
  · subst h; rfl
  · rw [joinP_snoc L _ h, joinP_snoc L _ h]; simp
/-- how many bytes, the last blank too -/
def sumP : List (List UInt8) → Nat | [] => 0 | x :: r => x.length + 1 + sumP r
theorem joinP_len : ∀ (L : List (List UInt8)), L ≠ [] → (joinP L).length + 1 = sumP L
  | [], h => absurd rfl h
  | [x], _ => rfl
  | x :: y :: r, _ => by
    have ih := joinP_len (y :: r) (by simp)
    rw [joinP_cons _ _ (by simp), sumP, List.length_append, List.length_cons]
    omega
def fullP (L : List (List UInt8)) : List (List UInt8) := L.filter fun x => decide (0 < x.length)
theorem sumP_full : ∀ (L : List (List UInt8)), sumP (fullP L) ≤ sumP L ∧ (sumP (fullP L) = sumP L → fullP L = L)
  | [] => ⟨Nat.le_refl _, fun _ => rfl⟩
  | x :: r => by
    obtain ⟨h1, h2⟩ := sumP_full r
    unfold fullP at h1 h2 ⊢
    by_cases h : 0 < x.length
    · rw [List.filter_cons_of_pos (by simpa using h)]
      simp only [sumP]
      exact ⟨by omega, fun e => by rw [h2 (by omega)]⟩
    · rw [List.filter_cons_of_neg (by simpa using h)]
      simp only [sumP]
      exact ⟨by omega, fun e => by omega⟩
/-- the words of a text that is not empty join to the text just where no part is empty -/
theorem join_full (L : List (List UInt8)) (h0 : joinP L ≠ []) : joinP (fullP L) = joinP L ↔ fullP L = L := by
  constructor
  · intro h
    have hL : L ≠ [] := by rintro rfl; exact h0 rfl
    have hF : fullP L ≠ [] := by
      intro e; rw [e] at h; exact h0 h.symm
    have a := joinP_len L hL
    have b := joinP_len (fullP L) hF
    rw [h] at b
    exact (sumP_full L).2 (by omega)
  · intro h; rw [h]
end Go.Proofs.Ytnjdoedhhpkjhaa
