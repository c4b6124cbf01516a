/-
  Plain facts on a text that is cut at a byte. No program in sight.
-/
import Derived.Test.YtnjdoedhhpkjhaaTextMath
namespace Go.Proofs.Ytnjdoedhhpkjhaa
set_option linter.unusedVariables false

/-- where the part at hand begins, and the parts so far -/
def spStep (s : ByteArray) (c : Int) (a : Nat × List ByteArray) (k : Nat) : Nat × List ByteArray :=
  if h : k < s.size then if (s[k].toNat : Int) = c then (k + 1, a.2 ++ [s.extract a.1 k]) else a else a
def spRun (s : ByteArray) (c : Int) : Nat → Nat × List ByteArray
  | 0 => (0, [])
  | k + 1 => spStep s c (spRun s c k) k
def splitL (s : ByteArray) (c : Int) : List ByteArray := (spRun s c s.size).2 ++ [s.extract (spRun s c s.size).1 s.size]
theorem spRun_cut {s : ByteArray} {c : Int} {k : Nat} (h : k < s.size) (hc : (s[k].toNat : Int) = c) : spRun s c (k + 1) = (k + 1, (spRun s c k).2 ++ [s.extract (spRun s c k).1 k]) := by
  rw [spRun, spStep, dif_pos h, if_pos hc]
theorem spRun_on {s : ByteArray} {c : Int} {k : Nat} (h : k < s.size) (hc : ¬ (s[k].toNat : Int) = c) : spRun s c (k + 1) = spRun s c k := by
  rw [spRun, spStep, dif_pos h, if_neg hc]
theorem spRun_bd (s : ByteArray) (c : Int) (k : Nat) : (spRun s c k).1 ≤ k ∧ (spRun s c k).2.length ≤ k := by
  induction k with
  | zero => simp [spRun]
  | succ k ih =>
    rw [spRun, spStep]
    split
    · split
      · simp; omega
      · omega
    · omega

/-- how often the byte has come: not, once, or twice and more -/
theorem spRun_kind (s : ByteArray) (c : Int) (k : Nat) (hk : k ≤ s.size) :
    ((∀ j (h : j < s.size), j < k → ¬ (s[j].toNat : Int) = c) ∧ spRun s c k = (0, [])) ∨
    (∃ p, ∃ h : p < s.size, p < k ∧ (s[p].toNat : Int) = c ∧ (∀ j (h : j < s.size), j < k → (s[j].toNat : Int) = c → j = p) ∧ spRun s c k = (p + 1, [s.extract 0 p])) ∨
    (2 ≤ (spRun s c k).2.length ∧ ∃ p q, ∃ hp : p < s.size, ∃ hq : q < s.size, p < q ∧ (s[p].toNat : Int) = c ∧ (s[q].toNat : Int) = c) := by
  induction k with
  | zero => exact .inl ⟨fun j _ h => absurd h (Nat.not_lt_zero j), rfl⟩
  | succ k ih =>
    have hlt : k < s.size := by omega
    by_cases hc : (s[k].toNat : Int) = c
    · have hs := spRun_cut hlt hc
      right
      rcases ih (by omega) with ⟨h1, h2⟩ | ⟨p, hp, h1, h2, h3, h4⟩ | ⟨h1, h2⟩
      · left
        refine ⟨k, hlt, by omega, hc, fun j hj hjk hjc => ?_, by rw [hs, h2]; rfl⟩
        by_cases e : j = k
        · exact e
        · exact absurd hjc (h1 j hj (by omega))
      · right
        refine ⟨by rw [hs, h4]; simp, p, k, hp, hlt, h1, h2, hc⟩
      · right
        refine ⟨by rw [hs]; simp; omega, h2⟩
    · have hs := spRun_on hlt hc
      rw [hs]
      rcases ih (by omega) with ⟨h1, h2⟩ | ⟨p, hp, h1, h2, h3, h4⟩ | ⟨h1, h2⟩
      · left
        refine ⟨fun j hj hjk => ?_, h2⟩
        by_cases e : j = k
        · subst e; exact hc
        · exact h1 j hj (by omega)
      · right; left
        refine ⟨p, hp, by omega, h2, fun j hj hjk hjc => ?_, h4⟩
        by_cases e : j = k
        · subst e; exact absurd hjc hc
        · exact h3 j hj (by omega) hjc
      · exact .inr (.inr ⟨h1, h2⟩)

theorem extract_toList (s : ByteArray) (a b : Nat) : (s.extract a b).data.toList = (s.data.toList.take b).drop a := by
  simp [ByteArray.data_extract, Array.toList_extract]
  rw [List.drop_take]
/-- a byte of a piece -/
theorem all_extract {p : UInt8 → Bool} {s : ByteArray} {a b j : Nat} (hj : j < s.size) (h1 : a ≤ j) (h2 : j < b) (h : (s.extract a b).data.toList.all p = true) : p s[j] = true := by
  rw [extract_toList] at h
  rw [List.all_eq_true] at h
  apply h
  rw [List.mem_iff_getElem]
  have hl : ((s.data.toList.take b).drop a).length = min b s.size - a := by simp
  refine ⟨j - a, by rw [hl]; omega, ?_⟩
  rw [List.getElem_drop, List.getElem_take]
  have : a + (j - a) = j := by omega
  simp only [this]
  rfl
end Go.Proofs.Ytnjdoedhhpkjhaa
