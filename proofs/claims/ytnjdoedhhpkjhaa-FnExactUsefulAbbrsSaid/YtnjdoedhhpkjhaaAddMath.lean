/-
  Plain facts: where an abbreviation belongs in a dictionary.
-/
import Derived.Test.YtnjdoedhhpkjhaaAbC
namespace Go.Proofs.Ytnjdoedhhpkjhaa
open Go.RowKit
set_option linter.unusedVariables false

theorem bytesLess_irr (a : List UInt8) : Op.bytesLess a a = false := by
  induction a with
  | nil => rfl
  | cons x a ih =>
    have h : ¬ x < x := by rw [UInt8.lt_iff_toNat_lt]; omega
    simp [Op.bytesLess, h, ih]
theorem bytesLess_trans (a : List UInt8) : ∀ b c, Op.bytesLess a b = true → Op.bytesLess b c = true → Op.bytesLess a c = true := by
  induction a with
  | nil =>
    intro b c h1 h2
    cases b with
    | nil => simp [Op.bytesLess] at h1
    | cons y b =>
      cases c with
      | nil => simp [Op.bytesLess] at h2
      | cons z c => simp [Op.bytesLess]
  | cons x a ih =>
    intro b c h1 h2
    cases b with
    | nil => simp [Op.bytesLess] at h1
    | cons y b =>
      cases c with
      | nil => simp [Op.bytesLess] at h2
      | cons z c =>
        simp only [Op.bytesLess] at h1 h2 ⊢
        simp only [UInt8.lt_iff_toNat_lt, Bool.or_eq_true, Bool.and_eq_true, decide_eq_true_eq, beq_iff_eq] at h1 h2 ⊢
        rcases h1 with h1 | ⟨rfl, h1⟩
        · rcases h2 with h2 | ⟨rfl, h2⟩
          · left; omega
          · left; exact h1
        · rcases h2 with h2 | ⟨rfl, h2⟩
          · left; exact h2
          · right; exact ⟨rfl, ih _ _ h1 h2⟩
def lessB (a b : ByteArray) : Bool := Op.bytesLess a.toList b.toList
theorem less_irr (a : ByteArray) : lessB a a = false := bytesLess_irr _
theorem less_trans {a b c : ByteArray} (h1 : lessB a b = true) (h2 : lessB b c = true) : lessB a c = true := bytesLess_trans _ _ _ h1 h2
theorem less_asym {a b : ByteArray} (h : lessB a b = true) : lessB b a = false := by
  cases h2 : lessB b a
  · rfl
  · have := less_trans h h2; rw [less_irr] at this; cases this
theorem less_or {a b : ByteArray} (h : lessB a b = false) (h2 : (b.toList == a.toList) = false) : lessB b a = true := by
  have := bytesLess_tri a.toList b.toList
  unfold lessB at *
  rw [h, h2] at this
  simpa using this.symm

theorem okL_len {l : List Ab} (h : okL l = true) : l.length ≤ 30 := by
  unfold okL at h
  simp only [Bool.and_eq_true, decide_eq_true_eq] at h
  exact h.2
theorem okL_none {l : List Ab} (h : okL l = true) : NoneUpTo (badB l) l.length := by
  unfold okL at h
  simp only [Bool.and_eq_true] at h
  have h1 : firstAt (badB l) l.length = none := by simpa using h.1
  unfold firstAt at h1
  rw [List.find?_range_eq_none] at h1
  intro j hj
  simpa using h1 j hj
theorem okL_ab {l : List Ab} (h : okL l = true) {k : Nat} (hk : k < l.length) : abOk l[k].1 l[k].2 = true := by
  cases ho : abOk l[k].1 l[k].2
  · have := okL_none h k hk; rw [badB_one hk ho] at this; cases this
  · rfl
theorem okL_next {l : List Ab} (h : okL l = true) {j : Nat} (hj : j + 1 < l.length) : lessB l[j].1 l[j + 1].1 = true := by
  have := okL_none h (j + 1) hj
  rw [badB_next hj (okL_ab h hj)] at this
  unfold geB at this
  unfold lessB
  simpa using this
theorem okL_less {l : List Ab} (h : okL l = true) {i : Nat} : ∀ {j : Nat}, (hj : j < l.length) → (hi : i < j) → lessB (l[i]'(by omega)).1 l[j].1 = true
  | 0, _, hi => by omega
  | j + 1, hj, hi => by
    by_cases e : i = j
    · subst e; exact okL_next h hj
    · exact less_trans (okL_less h (j := j) (by omega) (by omega)) (okL_next h hj)

/-- is place k not yet behind s? -/
def stopAt (l : List Ab) (s : ByteArray) (k : Nat) : Bool := if h : k < l.length then !(lessB l[k].1 s) else false
def sameS (l : List Ab) (s : ByteArray) (k : Nat) : Bool := if h : k < l.length then l[k].1.toList == s.toList else false
theorem stopAt_get {l : List Ab} {s : ByteArray} {k : Nat} (h : k < l.length) : stopAt l s k = !(lessB l[k].1 s) := by unfold stopAt; rw [dif_pos h]
theorem sameS_get {l : List Ab} {s : ByteArray} {k : Nat} (h : k < l.length) : sameS l s k = (l[k].1.toList == s.toList) := by unfold sameS; rw [dif_pos h]
def placeOf (l : List Ab) (s : ByteArray) : Nat := (firstAt (stopAt l s) l.length).getD l.length
theorem place_hit {l : List Ab} {s : ByteArray} {k : Nat} (h : k < l.length) (hN : NoneUpTo (stopAt l s) k) (he : stopAt l s k = true) : placeOf l s = k := by
  unfold placeOf; rw [first_hit hN he h]; rfl
theorem place_none {l : List Ab} {s : ByteArray} (hN : NoneUpTo (stopAt l s) l.length) : placeOf l s = l.length := by
  unfold placeOf; rw [first_none hN]; rfl
theorem place_le (l : List Ab) (s : ByteArray) : placeOf l s ≤ l.length := by
  unfold placeOf
  cases h : firstAt (stopAt l s) l.length with
  | none => exact Nat.le_refl _
  | some k =>
    unfold firstAt at h
    have := List.mem_of_find?_eq_some h
    simp at this
    simp; omega
def hasS (l : List Ab) (s : ByteArray) : Bool := (firstAt (sameS l s) l.length).isSome
theorem ext_toL {a b : ByteArray} (h : a.toList = b.toList) : a = b := by
  rw [ByteArray.toList_eq, ByteArray.toList_eq] at h
  cases a; cases b
  simp only [ByteArray.mk.injEq]
  exact Array.toList_inj.1 h
theorem same_eq {l : List Ab} {s : ByteArray} {k : Nat} (h : k < l.length) (he : sameS l s k = true) : l[k].1 = s := by
  rw [sameS_get h] at he
  exact ext_toL (by simpa using he)
theorem has_hit {l : List Ab} {s : ByteArray} {k : Nat} (h : k < l.length) (hN : NoneUpTo (sameS l s) k) (he : sameS l s k = true) : hasS l s = true := by
  unfold hasS; rw [first_hit hN he h]; rfl
theorem has_none {l : List Ab} {s : ByteArray} (hN : NoneUpTo (sameS l s) l.length) : hasS l s = false := by
  unfold hasS; rw [first_none hN]; rfl
theorem has_false {l : List Ab} {s : ByteArray} (h : hasS l s = false) {k : Nat} (hk : k < l.length) : (l[k].1.toList == s.toList) = false := by
  unfold hasS at h
  have h1 : firstAt (sameS l s) l.length = none := by simpa using h
  unfold firstAt at h1
  rw [List.find?_range_eq_none] at h1
  have := h1 k hk
  rw [sameS_get hk] at this
  simpa using this
theorem has_some {l : List Ab} {s : ByteArray} (h : hasS l s = true) : ∃ k, ∃ (hk : k < l.length), l[k].1 = s := by
  unfold hasS at h
  cases h1 : firstAt (sameS l s) l.length with
  | none => rw [h1] at h; cases h
  | some k =>
    unfold firstAt at h1
    rw [List.find?_range_eq_some] at h1
    obtain ⟨h2, h3, _⟩ := h1
    have hk : k < l.length := by simpa using h3
    exact ⟨k, hk, same_eq hk h2⟩
/-- at the place that the search from the front finds: is the text there? -/
theorem place_same {l : List Ab} (h : okL l = true) {s : ByteArray} (hk : placeOf l s < l.length) : ((l[placeOf l s]'hk).1.toList == s.toList) = hasS l s := by
  cases hh : hasS l s
  · exact has_false hh hk
  · obtain ⟨k, hk2, he⟩ := has_some hh
    have hp : placeOf l s = k := by
      apply place_hit hk2
      · intro j hj
        have hjl : j < l.length := by omega
        rw [stopAt_get hjl, ← he, okL_less h hk2 hj]; rfl
      · rw [stopAt_get hk2, he, less_irr]; rfl
    simp only [hp]
    rw [he]; simp
theorem place_end {l : List Ab} (h : okL l = true) {s : ByteArray} (hk : ¬ placeOf l s < l.length) : hasS l s = false := by
  cases hh : hasS l s
  · rfl
  · obtain ⟨k, hk2, he⟩ := has_some hh
    have hp : placeOf l s = k := by
      apply place_hit hk2
      · intro j hj
        have hjl : j < l.length := by omega
        rw [stopAt_get hjl, ← he, okL_less h hk2 hj]; rfl
      · rw [stopAt_get hk2, he, less_irr]; rfl
    omega
/-- the search from the end finds the same place -/
theorem place_back {l : List Ab} (h : okL l = true) {s : ByteArray} (hs : hasS l s = false) {k : Nat} (hk : k ≤ l.length) (hup : ∀ j, k ≤ j → (hj : j < l.length) → lessB s l[j].1 = true) (hlo : k = 0 ∨ ∃ j, ∃ (hj : j < l.length), k = j + 1 ∧ lessB s l[j].1 = false) : placeOf l s = k := by
  have hN : NoneUpTo (stopAt l s) k := by
    intro j hj
    have hjl : j < l.length := by omega
    rw [stopAt_get hjl]
    rcases hlo with h0 | ⟨q, hq, e, hl⟩
    · omega
    · have hlq : lessB l[q].1 s = true := less_or hl (has_false hs hq)
      by_cases e2 : j = q
      · subst e2; rw [hlq]; rfl
      · rw [less_trans (okL_less h hq (show j < q by omega)) hlq]; rfl
  by_cases hkl : k < l.length
  · exact place_hit hkl hN (by rw [stopAt_get hkl, less_asym (hup k (Nat.le_refl _) hkl)]; rfl)
  · have e : k = l.length := by omega
    rw [e] at hN ⊢
    exact place_none hN

def addC (l : List Ab) (x : Ab) : Int := if okL l = true then (if abOk x.1 x.2 = true then (if hasS l x.1 = true then 4 else (if 30 ≤ l.length then 5 else 0)) else 2) else 1
def addL (l : List Ab) (x : Ab) : List Ab := if addC l x = 0 then l.take (placeOf l x.1) ++ [x] ++ l.drop (placeOf l x.1) else []
theorem add_bad {l : List Ab} {x : Ab} (h : okL l = false) : addL l x = [] ∧ addC l x = 1 := by simp [addL, addC, h]
theorem add_range {l : List Ab} {x : Ab} (h : okL l = true) (h2 : abOk x.1 x.2 = false) : addL l x = [] ∧ addC l x = 2 := by simp [addL, addC, h, h2]
theorem add_exists {l : List Ab} {x : Ab} (h : okL l = true) (h2 : abOk x.1 x.2 = true) (h3 : hasS l x.1 = true) : addL l x = [] ∧ addC l x = 4 := by simp [addL, addC, h, h2, h3]
theorem add_full {l : List Ab} {x : Ab} (h : okL l = true) (h2 : abOk x.1 x.2 = true) (h3 : hasS l x.1 = false) (h4 : 30 ≤ l.length) : addL l x = [] ∧ addC l x = 5 := by simp [addL, addC, h, h2, h3, h4]
theorem add_ok {l : List Ab} {x : Ab} (h : okL l = true) (h2 : abOk x.1 x.2 = true) (h3 : hasS l x.1 = false) (h4 : ¬ 30 ≤ l.length) : addL l x = l.take (placeOf l x.1) ++ [x] ++ l.drop (placeOf l x.1) ∧ addC l x = 0 := by simp [addL, addC, h, h2, h3, h4]
theorem addL_len (l : List Ab) (x : Ab) : (addL l x).length ≤ 31 := by
  unfold addL
  split
  · rename_i h
    have hok : okL l = true := by
      cases ho : okL l
      · rw [(add_bad ho).2] at h; cases h
      · rfl
    have := okL_len hok
    have := place_le l x.1
    simp; omega
  · simp
end Go.Proofs.Ytnjdoedhhpkjhaa
