/-
  The least number of words from each place of a text on, and the readings along them: plain facts.
-/
import Derived.Test.YtojbblbjobbcaaaCount
namespace Go.Proofs.Ytojbblbjobbcaaa
open Go.RowKit
set_option linter.unusedVariables false

/-- one word looked at, at place i -/
def fewStep (l : List ByteArray) (t : ByteArray) (i k : Nat) (xs : List Int) : List Int :=
  if fitB l t i k = true ∧ 0 ≤ xs.getD (i + wsz l k) 0 ∧ (xs.getD i 0 < 0 ∨ xs.getD (i + wsz l k) 0 + 1 < xs.getD i 0) then xs.set i (xs.getD (i + wsz l k) 0 + 1) else xs
def fewIn (l : List ByteArray) (t : ByteArray) (i : Nat) (xs : List Int) : Nat → List Int
  | 0 => xs.set i (-1)
  | k + 1 => fewStep l t i k (fewIn l t i xs k)
def fewAll (l : List ByteArray) (t : ByteArray) : Nat → List Int
  | 0 => List.replicate (t.size + 1) 0
  | m + 1 => fewIn l t (t.size - 1 - m) (fewAll l t m) l.length
theorem fewStep_len (l : List ByteArray) (t : ByteArray) (i k : Nat) (xs : List Int) : (fewStep l t i k xs).length = xs.length := by
  unfold fewStep; split <;> simp
theorem fewIn_len (l : List ByteArray) (t : ByteArray) (i : Nat) (xs : List Int) (k : Nat) : (fewIn l t i xs k).length = xs.length := by
  induction k with
  | zero => simp [fewIn]
  | succ k ih => rw [fewIn, fewStep_len, ih]
theorem fewAll_len (l : List ByteArray) (t : ByteArray) (m : Nat) : (fewAll l t m).length = t.size + 1 := by
  induction m with
  | zero => simp [fewAll]
  | succ m ih => rw [fewAll, fewIn_len, ih]
theorem fewStep_no {l : List ByteArray} {t : ByteArray} {i k : Nat} {xs : List Int} (h : fitB l t i k = false) : fewStep l t i k xs = xs := by simp [fewStep, h]
theorem fewStep_neg {l : List ByteArray} {t : ByteArray} {i k : Nat} {xs : List Int} (h : xs.getD (i + wsz l k) 0 < 0) : fewStep l t i k xs = xs := by
  rw [fewStep, if_neg (by omega)]
theorem fewStep_keep {l : List ByteArray} {t : ByteArray} {i k : Nat} {xs : List Int} (h : ¬ xs.getD i 0 < 0) (h2 : ¬ xs.getD (i + wsz l k) 0 + 1 < xs.getD i 0) : fewStep l t i k xs = xs := by
  rw [fewStep, if_neg (by omega)]
theorem fewStep_set {l : List ByteArray} {t : ByteArray} {i k : Nat} {xs : List Int} (h : fitB l t i k = true) (h1 : ¬ xs.getD (i + wsz l k) 0 < 0) (h2 : xs.getD i 0 < 0 ∨ xs.getD (i + wsz l k) 0 + 1 < xs.getD i 0) : fewStep l t i k xs = xs.set i (xs.getD (i + wsz l k) 0 + 1) := by
  rw [fewStep, if_pos ⟨h, by omega, h2⟩]
theorem getD_set_same {xs : List Int} {i : Nat} (v : Int) (h : i < xs.length) : (xs.set i v).getD i 0 = v := by
  simp [List.getD, h]
theorem getD_set_other {xs : List Int} {i j : Nat} (v : Int) (h : i ≠ j) : (xs.set i v).getD j 0 = xs.getD j 0 := by
  simp [List.getD, List.getElem?_set_ne h]
/-- no entry above a bound -/
def AtMost (c : Int) (xs : List Int) : Prop := ∀ j, xs.getD j 0 ≤ c
theorem atMost_set {c v : Int} {xs : List Int} {i : Nat} (h : AtMost c xs) (hv : v ≤ c) : AtMost c (xs.set i v) := by
  intro j
  by_cases e : i = j
  · subst e
    by_cases hl : i < xs.length
    · rw [getD_set_same v hl]; exact hv
    · rw [List.set_eq_of_length_le (by omega)]; exact h i
  · rw [getD_set_other v e]; exact h j
theorem atMost_mono {c d : Int} {xs : List Int} (h : AtMost c xs) (hcd : c ≤ d) : AtMost d xs := fun j => by have := h j; omega
theorem fewStep_most {c : Int} {l : List ByteArray} {t : ByteArray} {i k : Nat} {xs : List Int} (h : AtMost c xs) : AtMost (c + 1) (fewStep l t i k xs) := by
  unfold fewStep
  split
  · exact atMost_set (atMost_mono h (by omega)) (by have := h (i + wsz l k); omega)
  · exact atMost_mono h (by omega)
theorem fewIn_most {c : Int} {l : List ByteArray} {t : ByteArray} {i : Nat} {xs : List Int} (h : AtMost c xs) (hc : 0 ≤ c) (k : Nat) : AtMost (c + k) (fewIn l t i xs k) := by
  induction k with
  | zero => exact atMost_mono (atMost_set h (by omega)) (by omega)
  | succ k ih => exact atMost_mono (fewStep_most ih) (by omega)
theorem fewAll_most (l : List ByteArray) (t : ByteArray) (m : Nat) : AtMost ((m * l.length : Nat) : Int) (fewAll l t m) := by
  induction m with
  | zero => intro j; simp [fewAll, List.getD, List.getElem?_replicate]; split <;> simp
  | succ m ih => exact atMost_mono (fewIn_most ih (by omega) _) (by rw [Nat.add_mul]; omega)
/-- a round changes its own place alone -/
theorem fewStep_other {l : List ByteArray} {t : ByteArray} {i k j : Nat} {xs : List Int} (h : i ≠ j) : (fewStep l t i k xs).getD j 0 = xs.getD j 0 := by
  unfold fewStep
  split
  · exact getD_set_other _ h
  · rfl
theorem fewIn_other {l : List ByteArray} {t : ByteArray} {i j : Nat} {xs : List Int} (h : i ≠ j) (k : Nat) : (fewIn l t i xs k).getD j 0 = xs.getD j 0 := by
  induction k with
  | zero => exact getD_set_other _ h
  | succ k ih => rw [fewIn, fewStep_other h, ih]
theorem fewAll_later {l : List ByteArray} {t : ByteArray} {j m : Nat} (hj : t.size < j + 1 + m) (hj2 : j ≤ t.size) : ∀ d, m + d ≤ t.size → (fewAll l t (m + d)).getD j 0 = (fewAll l t m).getD j 0
  | 0, _ => rfl
  | d + 1, h => by
    rw [← Nat.add_assoc, fewAll, fewIn_other (by omega), fewAll_later hj hj2 d (by omega)]
/-- each word is some byte at least -/
def noEmpty (l : List ByteArray) : Prop := ∀ k, k < l.length → 1 ≤ wsz l k
theorem fewIn_why {l : List ByteArray} {t : ByteArray} {i : Nat} {xs : List Int} (hl : noEmpty l) (hi : i < xs.length) : ∀ k, k ≤ l.length → 0 ≤ (fewIn l t i xs k).getD i 0 → ∃ q, q < k ∧ fitB l t i q = true ∧ 0 ≤ xs.getD (i + wsz l q) 0 ∧ (fewIn l t i xs k).getD i 0 = xs.getD (i + wsz l q) 0 + 1
  | 0, _, h => by rw [fewIn, getD_set_same _ hi] at h; omega
  | k + 1, hk, h => by
    have hw := hl k (by omega)
    rw [fewIn] at h ⊢
    unfold fewStep at h ⊢
    split
    · rename_i hc
      obtain ⟨h1, h2, h3⟩ := hc
      rw [fewIn_other (by omega)] at h2 ⊢
      exact ⟨k, by omega, h1, h2, by rw [getD_set_same _ (by rw [fewIn_len]; exact hi)]⟩
    · rename_i hc
      rw [if_neg hc] at h
      obtain ⟨q, h1, h2⟩ := fewIn_why hl hi k (by omega) h
      exact ⟨q, by omega, h2⟩
def fewL (l : List ByteArray) (t : ByteArray) : List Int := fewAll l t t.size
theorem fewL_len (l : List ByteArray) (t : ByteArray) : (fewL l t).length = t.size + 1 := fewAll_len _ _ _
theorem fewL_most (l : List ByteArray) (t : ByteArray) (j : Nat) : (fewL l t).getD j 0 ≤ ((t.size * l.length : Nat) : Int) := fewAll_most l t t.size j
/-- where there is a reading, a word leads to one that is one word shorter -/
theorem few_why {l : List ByteArray} {t : ByteArray} {i : Nat} (hl : noEmpty l) (hi : i < t.size) (hfs : ∀ q, q < l.length → fitB l t i q = true → i + wsz l q ≤ t.size) (h : 0 ≤ (fewL l t).getD i 0) :
    ∃ q, q < l.length ∧ fitB l t i q = true ∧ 0 ≤ (fewL l t).getD (i + wsz l q) 0 ∧ (fewL l t).getD i 0 = (fewL l t).getD (i + wsz l q) 0 + 1 := by
  unfold fewL at *
  obtain ⟨m, hm⟩ : ∃ m, m = t.size - 1 - i := ⟨_, rfl⟩
  have e1 : t.size = (m + 1) + i := by omega
  have e2 : (fewAll l t t.size).getD i 0 = (fewAll l t (m + 1)).getD i 0 := by
    have := fewAll_later (l := l) (t := t) (j := i) (m := m + 1) (by omega) (by omega) i (by omega)
    rwa [← e1] at this
  rw [e2] at h ⊢
  have e3 : t.size - 1 - m = i := by omega
  rw [fewAll, e3] at h ⊢
  obtain ⟨q, hq, hf, h0, he⟩ := fewIn_why hl (by rw [fewAll_len]; omega) l.length (Nat.le_refl _) h
  have hw := hl q hq
  have hle := hfs q hq hf
  have e4 : (fewAll l t t.size).getD (i + wsz l q) 0 = (fewAll l t m).getD (i + wsz l q) 0 := by
    have := fewAll_later (l := l) (t := t) (j := i + wsz l q) (m := m) (by omega) hle (i + 1) (by omega)
    have e5 : m + (i + 1) = t.size := by omega
    rwa [e5] at this
  exact ⟨q, hq, hf, by rw [e4]; exact h0, by rw [e4]; exact he⟩

/-- does word k lead on from a place? -/
def hitR (few : Bool) (l : List ByteArray) (t : ByteArray) (xs : List Int) (a k : Nat) : Bool :=
  fitB l t a k && (decide (0 ≤ xs.getD (a + wsz l k) 0) && (!few || decide (xs.getD (a + wsz l k) 0 + 1 = xs.getD a 0)))
def readL (few : Bool) (l : List ByteArray) (t : ByteArray) (xs : List Int) : Nat → Nat → List Int
  | 0, _ => []
  | f + 1, a => if a < t.size then (match firstAt (hitR few l t xs a) l.length with | some k => (k : Int) :: readL few l t xs f (a + wsz l k) | none => []) else []
theorem readL_end {few : Bool} {l : List ByteArray} {t : ByteArray} {xs : List Int} {a : Nat} (h : ¬ a < t.size) : ∀ f, readL few l t xs f a = []
  | 0 => rfl
  | f + 1 => by rw [readL, if_neg h]
theorem readL_step {few : Bool} {l : List ByteArray} {t : ByteArray} {xs : List Int} {a k f : Nat} (h : a < t.size) (hk : k < l.length) (hN : NoneUpTo (hitR few l t xs a) k) (hh : hitR few l t xs a k = true) : readL few l t xs (f + 1) a = (k : Int) :: readL few l t xs f (a + wsz l k) := by
  rw [readL, if_pos h, first_hit hN hh hk]
theorem readL_len (few : Bool) (l : List ByteArray) (t : ByteArray) (xs : List Int) : ∀ f a, (readL few l t xs f a).length ≤ f
  | 0, _ => by simp [readL]
  | f + 1, a => by
    rw [readL]
    split
    · split
      · have := readL_len few l t xs f (a + wsz l ‹_›)
        simp only [List.length_cons]; omega
      · simp
    · simp
theorem hitR_fit {few : Bool} {l : List ByteArray} {t : ByteArray} {xs : List Int} {a k : Nat} (h : fitB l t a k = false) : hitR few l t xs a k = false := by simp [hitR, h]
theorem hitR_neg {few : Bool} {l : List ByteArray} {t : ByteArray} {xs : List Int} {a k : Nat} (h : xs.getD (a + wsz l k) 0 < 0) : hitR few l t xs a k = false := by
  have : decide (0 ≤ xs.getD (a + wsz l k) 0) = false := by simpa using h
  unfold hitR; rw [this]; simp
theorem hitR_off {l : List ByteArray} {t : ByteArray} {xs : List Int} {a k : Nat} (h : ¬ xs.getD (a + wsz l k) 0 + 1 = xs.getD a 0) : hitR true l t xs a k = false := by
  have : decide (xs.getD (a + wsz l k) 0 + 1 = xs.getD a 0) = false := by simpa using h
  unfold hitR; rw [this]; simp
theorem hitR_one {l : List ByteArray} {t : ByteArray} {xs : List Int} {a k : Nat} (h1 : fitB l t a k = true) (h2 : ¬ xs.getD (a + wsz l k) 0 < 0) : hitR false l t xs a k = true := by
  have : decide (0 ≤ xs.getD (a + wsz l k) 0) = true := by simpa using h2
  unfold hitR; rw [h1, this]; rfl
theorem hitR_few {l : List ByteArray} {t : ByteArray} {xs : List Int} {a k : Nat} (h1 : fitB l t a k = true) (h2 : ¬ xs.getD (a + wsz l k) 0 < 0) (h3 : xs.getD (a + wsz l k) 0 + 1 = xs.getD a 0) : hitR true l t xs a k = true := by
  have : decide (0 ≤ xs.getD (a + wsz l k) 0) = true := by simpa using h2
  unfold hitR; rw [h1, this, decide_eq_true h3]; rfl
/-- a place with a reading: some word leads on -/
theorem hit_some {few : Bool} {l : List ByteArray} {t : ByteArray} {i : Nat} (hl : noEmpty l) (hi : i < t.size) (hfs : ∀ q, q < l.length → fitB l t i q = true → i + wsz l q ≤ t.size) (h : 0 ≤ (fewL l t).getD i 0) : ¬ NoneUpTo (hitR few l t (fewL l t) i) l.length := by
  obtain ⟨q, hq, hf, h0, he⟩ := few_why hl hi hfs h
  intro hN
  have := hN q hq
  cases few
  · rw [hitR_one hf (by omega)] at this; cases this
  · rw [hitR_few hf (by omega) (by omega)] at this; cases this
theorem hit_next {few : Bool} {l : List ByteArray} {t : ByteArray} {xs : List Int} {a k : Nat} (h : hitR few l t xs a k = true) : 0 ≤ xs.getD (a + wsz l k) 0 := by
  unfold hitR at h
  simp only [Bool.and_eq_true, decide_eq_true_eq] at h
  exact h.2.1

def readR (few : Bool) (l : List ByteArray) (t : ByteArray) : List Int := if 0 ≤ (fewL l t).getD 0 0 then readL few l t (fewL l t) t.size 0 else []
def readB (l : List ByteArray) (t : ByteArray) : Bool := decide (0 ≤ (fewL l t).getD 0 0)
theorem readR_no {few : Bool} {l : List ByteArray} {t : ByteArray} (h : (fewL l t).getD 0 0 < 0) : readR few l t = [] ∧ readB l t = false := by
  unfold readR readB; rw [if_neg (by omega)]; exact ⟨rfl, by simpa using h⟩
theorem readR_yes {few : Bool} {l : List ByteArray} {t : ByteArray} (h : ¬ (fewL l t).getD 0 0 < 0) : readR few l t = readL few l t (fewL l t) t.size 0 ∧ readB l t = true := by
  unfold readR readB; rw [if_pos (by omega)]; exact ⟨rfl, by simpa using h⟩
theorem readR_len (few : Bool) (l : List ByteArray) (t : ByteArray) : (readR few l t).length ≤ t.size := by
  unfold readR; split
  · exact readL_len _ _ _ _ _ _
  · simp
/-- the list and the code -/
def findL (few : Bool) (l : List ByteArray) (t : ByteArray) : List Int := if codeC l t = 0 then readR few l t else []
def findC (l : List ByteArray) (t : ByteArray) : Int := if codeC l t = 0 then (if readB l t = true then 0 else 3) else codeC l t
theorem find_bad {few : Bool} {l : List ByteArray} {t : ByteArray} (h : ¬ codeC l t = 0) : findL few l t = [] ∧ findC l t = codeC l t := by simp [findL, findC, h]
theorem find_no {few : Bool} {l : List ByteArray} {t : ByteArray} (h : codeC l t = 0) (h2 : readB l t = false) (h3 : readR few l t = []) : findL few l t = [] ∧ findC l t = 3 := by simp [findL, findC, h, h2, h3]
theorem find_yes {few : Bool} {l : List ByteArray} {t : ByteArray} (h : codeC l t = 0) (h2 : readB l t = true) : findL few l t = readR few l t ∧ findC l t = 0 := by simp [findL, findC, h, h2]
theorem findL_len (few : Bool) (l : List ByteArray) (t : ByteArray) (ht : t.size ≤ maxLen) : (findL few l t).length ≤ 60 := by
  unfold findL
  split
  · rename_i h
    have := text_size (codeC_zero h).2
    have := readR_len few l t
    omega
  · simp
end Go.Proofs.Ytojbblbjobbcaaa
