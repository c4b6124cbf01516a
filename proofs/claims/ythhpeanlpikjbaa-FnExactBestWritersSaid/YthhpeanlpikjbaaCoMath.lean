/-
  Plain facts: the letters that a page shows in several ways. No program in sight.
-/
import Derived.Test.YthhpeanlpikjbaaApt2
import Derived.Test.YthhpeanlpikjbaaFaceB
namespace Go.Proofs.Ythhpeanlpikjbaa
open Go.Maps Go.RowKit
set_option linter.unusedVariables false

theorem fa_succ (p : Nat → Bool) (k : Nat) : firstAt p (k + 1) = (firstAt p k).or (if p k = true then some k else none) := by
  unfold firstAt
  rw [List.range_succ, List.find?_append]
  congr 1
  cases h : p k <;> simp [List.find?, h]
theorem fa_some {p : Nat → Bool} : ∀ {k j : Nat}, firstAt p k = some j → j < k ∧ p j = true ∧ NoneUpTo p j
  | 0, j, h => by simp [firstAt] at h
  | k + 1, j, h => by
    rw [fa_succ] at h
    cases h1 : firstAt p k with
    | some i =>
      rw [h1] at h
      simp at h
      subst h
      have := fa_some h1
      exact ⟨by omega, this.2⟩
    | none =>
      rw [h1] at h
      cases hp : p k
      · simp [hp] at h
      · simp [hp] at h
        subst h
        refine ⟨by omega, hp, fun i hi => ?_⟩
        unfold firstAt at h1
        have := List.find?_eq_none.1 h1 i (List.mem_range.2 hi)
        simpa using this
theorem fa_none {p : Nat → Bool} {k : Nat} (h : firstAt p k = none) : NoneUpTo p k := fun i hi => by
  unfold firstAt at h
  have := List.find?_eq_none.1 h i (List.mem_range.2 hi)
  simpa using this
/-- the first place of a letter among so many -/
def fstI (l : List Se) (k : Nat) (s : ByteArray) : Option Nat := firstAt (fun j => (ltrK l j).toList == s.toList) k
theorem fstI_eq {l : List Se} {k : Nat} {s t : ByteArray} (h : s.toList = t.toList) : fstI l k s = fstI l k t := by unfold fstI; rw [h]
theorem fstI_next {l : List Se} {k : Nat} (s : ByteArray) : fstI l (k + 1) s = (fstI l k s).or (if ((ltrK l k).toList == s.toList) = true then some k else none) := fa_succ _ _
abbrev keyT (s : ByteArray) : Lit := .string s.data.toList
/-- the map holds the first kind of each letter -/
def FA (D : DataW Unit) (l : List Se) (k : Nat) : Prop := ∀ s : ByteArray, Maps.has D (keyT s) = (fstI l k s).isSome ∧ ∀ j, fstI l k s = some j → ∀ zd, D.atKey (keyT s) zd = .lit (.int .i64 (kindAt l j))
theorem fa_zero (l : List Se) : FA (.map []) l 0 := fun s => ⟨rfl, fun j h => by simp [fstI, firstAt] at h⟩
theorem toList_inj {s t : ByteArray} (h : s.data.toList = t.data.toList) : s.toList = t.toList := by rw [← data_toList, ← data_toList, h]
theorem fa_put {D : DataW Unit} {l : List Se} {k : Nat} (hm : IsMap D) (h : FA D l k) (hn : fstI l k (ltrK l k) = none) : FA (D.put (keyT (ltrK l k)) (.lit (.int .i64 (kindAt l k)))) l (k + 1) := by
  intro s
  rw [fstI_next]
  by_cases he : s.data.toList = (ltrK l k).data.toList
  · have ht := toList_inj he
    rw [fstI_eq ht, hn, ht]
    refine ⟨?_, fun j hj zd => ?_⟩
    · show Maps.has _ (Lit.string s.data.toList) = _
      rw [he, has_put_same hm (by exact trivial)]
      simp
    · simp at hj
      subst hj
      show DataW.atKey _ (Lit.string s.data.toList) zd = _
      rw [he, atKey_put_same hm (by exact trivial)]
  · have hne : (Lit.string s.data.toList) ≠ Lit.string (ltrK l k).data.toList := fun e => he (by injection e)
    have hf : ((ltrK l k).toList == s.toList) = false := by
      rw [beq_eq_false_iff_ne]
      intro e
      exact he (by rw [data_toList, data_toList, e])
    rw [hf]
    refine ⟨?_, fun j hj zd => ?_⟩
    · rw [has_put_other hne, (h s).1]
      simp
    · rw [atKey_put_other hne]
      exact (h s).2 j (by simpa using hj) zd
theorem fa_keep {D : DataW Unit} {l : List Se} {k j : Nat} (h : FA D l k) (hs : fstI l k (ltrK l k) = some j) : FA D l (k + 1) := by
  intro s
  rw [fstI_next]
  cases hf : ((ltrK l k).toList == s.toList)
  · refine ⟨by rw [(h s).1]; simp, fun i hi zd => (h s).2 i (by simpa using hi) zd⟩
  · have ht : (ltrK l k).toList = s.toList := by simpa using hf
    rw [fstI_eq ht] at hs
    rw [hs]
    refine ⟨by rw [(h s).1, hs]; simp, fun i hi zd => (h s).2 i (by rw [hs]; simpa using hi) zd⟩
def coM (l : List Se) : Nat → List Bool
  | 0 => noMk
  | k + 1 => match fstI l k (ltrK l k) with
    | none => coM l k
    | some j => if kindAt l j = kindAt l k then coM l k else (coM l k).set (headN (ltrK l k)) true
theorem coM_none {l : List Se} {k : Nat} (h : fstI l k (ltrK l k) = none) : coM l (k + 1) = coM l k := by rw [coM, h]
theorem coM_same {l : List Se} {k j : Nat} (h : fstI l k (ltrK l k) = some j) (h2 : kindAt l j = kindAt l k) : coM l (k + 1) = coM l k := by rw [coM, h]; exact if_pos h2
theorem coM_set {l : List Se} {k j : Nat} (h : fstI l k (ltrK l k) = some j) (h2 : ¬ kindAt l j = kindAt l k) : coM l (k + 1) = (coM l k).set (headN (ltrK l k)) true := by rw [coM, h]; exact if_neg h2
theorem coM_len (l : List Se) : ∀ k, (coM l k).length = 256
  | 0 => noMk_len
  | k + 1 => by
    cases h : fstI l k (ltrK l k) with
    | none => rw [coM_none h]; exact coM_len l k
    | some j =>
      by_cases h2 : kindAt l j = kindAt l k
      · rw [coM_same h h2]; exact coM_len l k
      · rw [coM_set h h2, List.length_set]; exact coM_len l k
def spB (l : List Se) (i q : Nat) : Bool := ((ltrK l q).toList == (ltrK l i).toList) && (kindAt l q != kindAt l i)
def spRow (ms : List Bool) (l : List Se) (i : Nat) : Nat → List Bool
  | 0 => ms
  | q + 1 => if spB l i q = true then (spRow ms l i q).set (headN (ltrK l i)) true else spRow ms l i q
def spM (l : List Se) : Nat → List Bool
  | 0 => noMk
  | i + 1 => spRow (spM l i) l i i
theorem spRow_len (ms : List Bool) (l : List Se) (i : Nat) : ∀ q, (spRow ms l i q).length = ms.length
  | 0 => rfl
  | q + 1 => by
    rw [spRow]
    split
    · rw [List.length_set]; exact spRow_len ms l i q
    · exact spRow_len ms l i q
theorem spM_len (l : List Se) : ∀ i, (spM l i).length = 256
  | 0 => noMk_len
  | i + 1 => by rw [spM, spRow_len]; exact spM_len l i
theorem spRow_yes {ms : List Bool} {l : List Se} {i q : Nat} (h : spB l i q = true) : spRow ms l i (q + 1) = (spRow ms l i q).set (headN (ltrK l i)) true := if_pos h
theorem spRow_no {ms : List Bool} {l : List Se} {i q : Nat} (h : spB l i q = false) : spRow ms l i (q + 1) = spRow ms l i q := if_neg (by rw [h]; decide)
theorem spRow_mem {ms : List Bool} {l : List Se} {i : Nat} (hl : ms.length = 256) (x : Nat) : ∀ q, marked (spRow ms l i q) x = true ↔ marked ms x = true ∨ ∃ j, j < q ∧ spB l i j = true ∧ headN (ltrK l i) = x
  | 0 => by simp [spRow]
  | q + 1 => by
    have ih := spRow_mem (l := l) (i := i) hl x q
    cases h : spB l i q
    · rw [spRow_no h, ih]
      constructor
      · rintro (h1 | ⟨j, hj, h1⟩)
        · exact .inl h1
        · exact .inr ⟨j, by omega, h1⟩
      · rintro (h1 | ⟨j, hj, h1, h2⟩)
        · exact .inl h1
        · refine .inr ⟨j, ?_, h1, h2⟩
          rcases Nat.lt_or_ge j q with h3 | h3
          · exact h3
          · obtain rfl : j = q := by omega
            rw [h] at h1; cases h1
    · rw [spRow_yes h, marked_set (by rw [spRow_len, hl]; exact headN_lt _)]
      simp only [Bool.or_eq_true, decide_eq_true_eq]
      rw [ih]
      constructor
      · rintro ((h1 | ⟨j, hj, h1⟩) | h1)
        · exact .inl h1
        · exact .inr ⟨j, by omega, h1⟩
        · exact .inr ⟨q, by omega, h, h1.symm⟩
      · rintro (h1 | ⟨j, hj, h1, h2⟩)
        · exact .inl (.inl h1)
        · exact .inr h2.symm
theorem spM_mem (l : List Se) (x : Nat) : ∀ i, marked (spM l i) x = true ↔ ∃ p q, q < p ∧ p < i ∧ spB l p q = true ∧ headN (ltrK l p) = x
  | 0 => by
    simp only [spM, marked_noMk]
    constructor
    · intro h; cases h
    · rintro ⟨p, q, _, h, _⟩; omega
  | i + 1 => by
    rw [spM, spRow_mem (spM_len l i), spM_mem l x i]
    constructor
    · rintro (⟨p, q, h1, h2, h3⟩ | ⟨j, h1, h2, h3⟩)
      · exact ⟨p, q, h1, by omega, h3⟩
      · exact ⟨i, j, h1, by omega, h2, h3⟩
    · rintro ⟨p, q, h1, h2, h3, h4⟩
      rcases Nat.lt_or_ge p i with h5 | h5
      · exact .inl ⟨p, q, h1, h5, h3, h4⟩
      · obtain rfl : p = i := by omega
        exact .inr ⟨q, h1, h3, h4⟩
theorem coM_mem (l : List Se) (x : Nat) : ∀ i, marked (coM l i) x = true ↔ ∃ p j, p < i ∧ fstI l p (ltrK l p) = some j ∧ ¬ kindAt l j = kindAt l p ∧ headN (ltrK l p) = x
  | 0 => by
    simp only [coM, marked_noMk]
    constructor
    · intro h; cases h
    · rintro ⟨p, j, h, _⟩; omega
  | i + 1 => by
    have ih := coM_mem l x i
    have up : (∃ p j, p < i ∧ fstI l p (ltrK l p) = some j ∧ ¬ kindAt l j = kindAt l p ∧ headN (ltrK l p) = x) → ∃ p j, p < i + 1 ∧ fstI l p (ltrK l p) = some j ∧ ¬ kindAt l j = kindAt l p ∧ headN (ltrK l p) = x := by
      rintro ⟨p, j, h, r⟩; exact ⟨p, j, by omega, r⟩
    cases h : fstI l i (ltrK l i) with
    | none =>
      rw [coM_none h, ih]
      refine ⟨up, ?_⟩
      rintro ⟨p, j, h1, h2, h3⟩
      rcases Nat.lt_or_ge p i with h5 | h5
      · exact ⟨p, j, h5, h2, h3⟩
      · obtain rfl : p = i := by omega
        rw [h] at h2; cases h2
    | some j0 =>
      by_cases hk : kindAt l j0 = kindAt l i
      · rw [coM_same h hk, ih]
        refine ⟨up, ?_⟩
        rintro ⟨p, j, h1, h2, h3, h4⟩
        rcases Nat.lt_or_ge p i with h5 | h5
        · exact ⟨p, j, h5, h2, h3, h4⟩
        · obtain rfl : p = i := by omega
          rw [h] at h2; cases h2
          exact absurd hk h3
      · rw [coM_set h hk, marked_set (by rw [coM_len]; exact headN_lt _)]
        simp only [Bool.or_eq_true, decide_eq_true_eq]
        rw [ih]
        constructor
        · rintro (h1 | h1)
          · exact up h1
          · exact ⟨i, j0, by omega, h, hk, h1.symm⟩
        · rintro ⟨p, j, h1, h2, h3, h4⟩
          rcases Nat.lt_or_ge p i with h5 | h5
          · exact .inl ⟨p, j, h5, h2, h3, h4⟩
          · obtain rfl : p = i := by omega
            exact .inr h4.symm
theorem co_eq (l : List Se) (i : Nat) : letL (spM l i) = letL (coM l i) := by
  rw [marks_ext (spM_len l i) (coM_len l i) (fun x hx => ?_)]
  apply Bool.eq_iff_iff.2
  rw [spM_mem, coM_mem]
  constructor
  · rintro ⟨p, q, h1, h2, h3, h4⟩
    unfold spB at h3
    simp only [Bool.and_eq_true, beq_iff_eq, bne_iff_ne, ne_eq] at h3
    obtain ⟨h5, h6⟩ := h3
    -- the first place of the letter
    cases hf : fstI l p (ltrK l p) with
    | none =>
      have := fa_none hf q h1
      simp [h5] at this
    | some j =>
      by_cases hk : kindAt l j = kindAt l p
      · obtain ⟨a1, a2, a3⟩ := fa_some hf
        have hjq : j < q := by
          rcases Nat.lt_trichotomy j q with h7 | h7 | h7
          · exact h7
          · subst h7; exact absurd hk h6
          · have := a3 q h7
            simp [h5] at this
        refine ⟨q, j, by omega, ?_, ?_, ?_⟩
        · unfold fstI
          refine first_hit (fun t ht => ?_) ?_ hjq
          · have := a3 t ht
            rw [h5]
            exact this
          · rw [h5]
            exact a2
        · intro e
          exact h6 (e.symm.trans hk)
        · rw [← h4, ext_toList h5]
      · exact ⟨p, j, h2, hf, hk, h4⟩
  · rintro ⟨p, j, h1, h2, h3, h4⟩
    obtain ⟨a1, a2, a3⟩ := fa_some h2
    refine ⟨p, j, a1, h1, ?_, h4⟩
    unfold spB
    simp only [Bool.and_eq_true, bne_iff_ne, ne_eq]
    exact ⟨a2, h3⟩
end Go.Proofs.Ythhpeanlpikjbaa
