/-
  Plain facts: both sides' tests of a text agree. No program in sight.
-/
import Derived.Test.YtnjdoedhhpkjhaaWoRun
import Derived.Test.YtnjdoedhhpkjhaaAbMath
namespace Go.Proofs.Ytnjdoedhhpkjhaa
set_option linter.unusedVariables false

/-- the reference's test, of a text that is not empty: each part is good -/
def okS (p : ByteArray → Bool) (s : ByteArray) : Bool := (splitL s 32).all p
/-- the program's test: each word is good, and the words join to the text -/
def okI (p : ByteArray → Bool) (s : ByteArray) : Bool := (wordsL s).all p && decide (joinP (partsL (wordsL s)) = s.data.toList)
theorem ok_same (p : ByteArray → Bool) (hp : ∀ x, p x = true → 0 < x.size) (s : ByteArray) (h0 : s.size ≠ 0) : okI p s = okS p s ∧ (okS p s = true → wordsL s = splitL s 32) := by
  have hw := words_join s h0
  have hfull : okS p s = true → wordsL s = splitL s 32 := by
    intro h
    unfold okS at h
    unfold wordsL
    rw [List.filter_eq_self]
    intro x hx
    exact decide_eq_true (hp x (List.all_eq_true.1 h x hx))
  refine ⟨?_, hfull⟩
  cases h : okS p s
  · unfold okI
    by_cases hj : joinP (partsL (wordsL s)) = s.data.toList
    · rw [hw.1 hj]
      unfold okS at h
      rw [h]; rfl
    · rw [decide_eq_false hj, Bool.and_false]
  · have e := hfull h
    unfold okI
    rw [decide_eq_true (hw.2 e), e]
    unfold okS at h
    rw [h]; rfl
theorem words_empty (s : ByteArray) (h0 : s.size = 0) : wordsL s = [] := by
  unfold wordsL splitL
  rw [h0]
  simp [spRun]
theorem okI_empty (p : ByteArray → Bool) (s : ByteArray) (h0 : s.size = 0) : okI p s = true := by
  unfold okI
  rw [words_empty s h0]
  have e : s.data.toList.length = s.size := by simp
  have e2 : s.data.toList = [] := List.eq_nil_of_length_eq_zero (by omega)
  rw [e2]; rfl
end Go.Proofs.Ytnjdoedhhpkjhaa
