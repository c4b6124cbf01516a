/-
  Plain facts on the order of texts.
-/
import Derived.Test.YthhpeanlpikjbaaMem
namespace Go.Proofs.Ythhpeanlpikjbaa
open Go.RowKit
set_option linter.unusedVariables false

/-- of two texts one is less, or they are equal -/
theorem bytesLess_tri (a : List UInt8) : ∀ b, (!(Op.bytesLess a b)) = (Op.bytesLess b a || b == a) := by
  induction a with
  | nil => intro b; cases b <;> simp [Op.bytesLess]
  | cons x a ih =>
    intro b
    cases b with
    | nil => simp [Op.bytesLess]
    | cons y b =>
      simp only [Op.bytesLess]
      have := ih b
      by_cases h1 : x < y
      · have h2 : ¬ y < x := by
          rw [UInt8.lt_iff_toNat_lt] at h1 ⊢; omega
        have h3 : ¬ y = x := by
          intro e; subst e; rw [UInt8.lt_iff_toNat_lt] at h1; omega
        simp [h1, h2, h3]
      · by_cases h2 : y < x
        · have h3 : ¬ x = y := by
            intro e; subst e; rw [UInt8.lt_iff_toNat_lt] at h2; omega
          simp [h1, h2, h3]
        · have h3 : x = y := by
            apply UInt8.toNat_inj.1
            rw [UInt8.lt_iff_toNat_lt] at h1 h2; omega
          subst h3
          simp [h1, this]

theorem eqI_true {a b : Int} (h : a = b) : (a == b) = true := by simpa using h
theorem eqI_false {a b : Int} (h : ¬ a = b) : (a == b) = false := by simpa using h
theorem neI_true {a b : Int} (h : ¬ a = b) : (a != b) = true := by simpa using h
theorem neI_false {a b : Int} (h : a = b) : (a != b) = false := by simpa using h
def geB (a b : ByteArray) : Bool := !(Op.bytesLess a.toList b.toList)
theorem geB_leq (a b : ByteArray) : (Op.bytesLess b.toList a.toList || b.toList == a.toList) = geB a b := (bytesLess_tri _ _).symm
end Go.Proofs.Ythhpeanlpikjbaa
