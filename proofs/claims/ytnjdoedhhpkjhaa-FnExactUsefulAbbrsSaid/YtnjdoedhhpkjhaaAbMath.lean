/-
  Plain facts on words and abbreviations. No program in sight.
-/
import Derived.Test.YtnjdoedhhpkjhaaTextMath
namespace Go.Proofs.Ytnjdoedhhpkjhaa
set_option linter.unusedVariables false

def sm (c : UInt8) : Bool := decide (97 ≤ (c.toNat : Int) ∧ (c.toNat : Int) ≤ 122)
def wordB (s : ByteArray) (most : Int) : Bool := s.data.toList.all sm && decide (1 ≤ (s.size : Int) ∧ (s.size : Int) ≤ most)
def abOk (a b : ByteArray) : Bool := wordB a 8 && wordB b 30 && decide (a.size < b.size)
theorem sm_true {c : UInt8} (h1 : 97 ≤ (c.toNat : Int)) (h2 : (c.toNat : Int) ≤ 122) : sm c = true := by simp [sm, h1, h2]
theorem sm_lo {c : UInt8} (h1 : (c.toNat : Int) < 97) : sm c = false := by simp [sm]; omega
theorem sm_hi {c : UInt8} (h1 : 122 < (c.toNat : Int)) : sm c = false := by simp [sm]; omega
theorem word_size {s : ByteArray} {m : Int} (h : wordB s m = true) : 1 ≤ (s.size : Int) ∧ (s.size : Int) ≤ m := by
  simp only [wordB, Bool.and_eq_true, decide_eq_true_eq] at h
  exact h.2
theorem word_eight (s : ByteArray) : wordB s 8 = (wordB s 30 && decide (s.size ≤ 8)) := by
  rw [Bool.eq_iff_iff]
  simp only [wordB, Bool.and_eq_true, decide_eq_true_eq]
  constructor
  · rintro ⟨h1, h2, h3⟩; exact ⟨⟨h1, h2, by omega⟩, by omega⟩
  · rintro ⟨⟨h1, h2, h3⟩, h4⟩; exact ⟨h1, h2, by omega⟩
theorem abOk_true {a b : ByteArray} (h : abOk a b = true) : wordB a 8 = true ∧ wordB b 30 = true ∧ a.size < b.size ∧ 1 ≤ a.size ∧ a.size ≤ 8 ∧ b.size ≤ 30 := by
  simp only [abOk, Bool.and_eq_true, decide_eq_true_eq] at h
  have h1 := word_size h.1.1
  have h2 := word_size h.1.2
  exact ⟨h.1.1, h.1.2, h.2, by omega, by omega, by omega⟩
end Go.Proofs.Ytnjdoedhhpkjhaa
