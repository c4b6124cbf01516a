/-
  Plain facts on texts as bytes: which texts have only bytes within bounds; how often the colour changes. No program in sight.
-/
import Derived.RowKit
namespace Go.Proofs.Ytnjdoedhhpkjhaa
set_option linter.unusedVariables false

def gb (lo : Int) (c : UInt8) : Bool := decide (lo ≤ (c.toNat : Int) ∧ (c.toNat : Int) ≤ 126)
def textB (s : ByteArray) (lo most : Int) : Bool := s.data.toList.all (gb lo) && decide ((s.size : Int) ≤ most)
/-- all bytes ahead of place k are within bounds -/
def UpTo (p : UInt8 → Bool) (s : ByteArray) (k : Nat) : Prop := (s.data.toList.take k).all p = true
theorem take_snoc (s : ByteArray) (k : Nat) (h : k < s.size) : s.data.toList.take (k + 1) = s.data.toList.take k ++ [s[k]] := by
  rw [List.take_succ_eq_append_getElem (by simpa using h)]; rfl
theorem upto_zero (p : UInt8 → Bool) (s : ByteArray) : UpTo p s 0 := by simp [UpTo]
theorem upto_next {p : UInt8 → Bool} {s : ByteArray} {k : Nat} (h : k < s.size) (hg : p s[k] = true) (hu : UpTo p s k) : UpTo p s (k + 1) := by
  unfold UpTo at *
  rw [take_snoc s k h, List.all_append, hu]
  simp [hg]
theorem upto_bad {p : UInt8 → Bool} {s : ByteArray} {k : Nat} (h : k < s.size) (hg : p s[k] = false) : s.data.toList.all p = false := by
  rw [List.all_eq_false]
  exact ⟨s[k], by show s.data[k] ∈ s.data.toList; simp, by simp [hg]⟩
theorem upto_all {p : UInt8 → Bool} {s : ByteArray} (hu : UpTo p s s.size) : s.data.toList.all p = true := by
  unfold UpTo at hu
  rwa [List.take_of_length_le (by simp)] at hu
theorem gb_true {lo : Int} {c : UInt8} (h1 : lo ≤ (c.toNat : Int)) (h2 : (c.toNat : Int) ≤ 126) : gb lo c = true := by simp [gb, h1, h2]
theorem gb_lo {lo : Int} {c : UInt8} (h1 : (c.toNat : Int) < lo) : gb lo c = false := by simp [gb]; omega
theorem gb_hi {lo : Int} {c : UInt8} (h1 : 126 < (c.toNat : Int)) : gb lo c = false := by simp [gb]; omega

/-- is it a colour's letter? -/
def colB (c : UInt8) : Bool := decide ((c.toNat : Int) = 98 ∨ (c.toNat : Int) = 114 ∨ (c.toNat : Int) = 32)
/-- the colour now, and the changes till now -/
def colStep (a : Int × Int) (c : UInt8) : Int × Int := if (c.toNat : Int) = 32 ∨ (c.toNat : Int) = a.1 then a else ((c.toNat : Int), a.2 + 1)
def colRuns (s : ByteArray) (k : Nat) : Int × Int := (s.data.toList.take k).foldl colStep (98, 0)
def colR (s : ByteArray) : Int × Int := if s.data.toList.all colB = true then if s.size ≤ 1000 then ((colRuns s s.size).2, 0) else (0, 2) else (0, 7)
theorem colRuns_next {s : ByteArray} {k : Nat} (h : k < s.size) : colRuns s (k + 1) = colStep (colRuns s k) s[k] := by
  unfold colRuns
  rw [take_snoc s k h, List.foldl_append]
  rfl
theorem colStep_same {a : Int × Int} {c : UInt8} (h : (c.toNat : Int) = 32 ∨ (c.toNat : Int) = a.1) : colStep a c = a := by rw [colStep, if_pos h]
theorem colStep_new {a : Int × Int} {c : UInt8} (h : ¬ (c.toNat : Int) = 32) (h2 : ¬ (c.toNat : Int) = a.1) : colStep a c = ((c.toNat : Int), a.2 + 1) := by
  rw [colStep, if_neg (by omega)]
theorem colRuns_bd (s : ByteArray) (k : Nat) : 0 ≤ (colRuns s k).2 ∧ (colRuns s k).2 ≤ k := by
  induction k with
  | zero => simp [colRuns]
  | succ k ih =>
    by_cases h : k < s.size
    · rw [colRuns_next h, colStep]
      split
      · omega
      · simp only; omega
    · have : colRuns s (k + 1) = colRuns s k := by
        unfold colRuns
        rw [List.take_of_length_le (by simp; omega), List.take_of_length_le (by simp; omega)]
      rw [this]; omega
end Go.Proofs.Ytnjdoedhhpkjhaa
