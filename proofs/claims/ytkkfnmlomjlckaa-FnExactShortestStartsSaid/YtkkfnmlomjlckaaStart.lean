/-
  Plain facts on the shortest beginnings that tell words apart. No program in sight.
-/
import Derived.Test.YtkkfnmlomjlckaaWords2
import Derived.Lib.Strings
namespace Go.Proofs.Ytkkfnmlomjlckaa
set_option linter.unusedVariables false

theorem preB_iff (x s : ByteArray) : preB x s = true ↔ s.data.toList <+: x.data.toList := by
  have h : preB x s = Lib.hasPrefix x.data.toList s.data.toList := Lib.hasPrefix_raw x s
  rw [h, ← Lib.hasPrefix_of_take]
  simp only [Bool.and_eq_true, decide_eq_true_eq, beq_iff_eq]
  constructor
  · rintro ⟨_, h2⟩
    rw [← h2]
    exact List.take_prefix _ _
  · intro h2
    exact ⟨h2.length_le, (List.prefix_iff_eq_take.1 h2).symm⟩
theorem take_data (w : ByteArray) (m : Nat) : (w.extract 0 m).data.toList = w.data.toList.take m := by
  rw [Lib.extract_data]; simp
theorem pre_self (w : ByteArray) (m : Nat) : preB w (w.extract 0 m) = true := by
  rw [preB_iff, take_data]; exact List.take_prefix _ _
theorem pre_anti {x w : ByteArray} {m : Nat} (h : preB x (w.extract 0 (m + 1)) = true) : preB x (w.extract 0 m) = true := by
  rw [preB_iff, take_data] at *
  exact (List.take_prefix_take_left (Nat.le_succ m)).trans h

/-- does word k begin with a text? -/
def preAt (l : List ByteArray) (s : ByteArray) (k : Nat) : Bool := if h : k < l.length then preB l[k] s else false
theorem preAt_get {l : List ByteArray} {s : ByteArray} {k : Nat} (h : k < l.length) : preAt l s k = preB l[k] s := by unfold preAt; rw [dif_pos h]
/-- does another word begin with a text? -/
def othersB (l : List ByteArray) (i : Nat) (s : ByteArray) : Bool := (List.range l.length).any (fun k => decide (k ≠ i) && preAt l s k)
theorem others_true {l : List ByteArray} {i k : Nat} {s : ByteArray} (hk : k < l.length) (hne : k ≠ i) (hp : preAt l s k = true) : othersB l i s = true := by
  unfold othersB
  rw [List.any_eq_true]
  exact ⟨k, by simpa using hk, by simp [hne, hp]⟩
theorem others_false {l : List ByteArray} {i : Nat} {s : ByteArray} (h : ∀ k, k < l.length → k ≠ i → preAt l s k = false) : othersB l i s = false := by
  unfold othersB
  rw [List.any_eq_false]
  intro k hk
  simp only [List.mem_range] at hk
  by_cases e : k = i
  · simp [e]
  · simp [e, h k hk e]
/-- may the beginning of word i end at m? -/
def stopB (l : List ByteArray) (i m : Nat) : Bool := if h : i < l.length then decide (l[i].size ≤ m) || !(othersB l i (l[i].extract 0 m)) else true
theorem stopB_get {l : List ByteArray} {i m : Nat} (h : i < l.length) : stopB l i m = (decide (l[i].size ≤ m) || !(othersB l i (l[i].extract 0 m))) := by unfold stopB; rw [dif_pos h]
def startN (l : List ByteArray) (i : Nat) : Nat := if h : i < l.length then (match firstAt (fun m => stopB l i (m + 1)) l[i].size with | some m => m + 1 | none => 1) else 1
/-- no beginning of m or fewer may end -/
def Goes (l : List ByteArray) (i n : Nat) : Prop := ∀ m, 1 ≤ m → m < n → stopB l i m = false
theorem goes_one (l : List ByteArray) (i : Nat) : Goes l i 1 := fun m h1 h2 => by omega
theorem goes_next {l : List ByteArray} {i n : Nat} (h : Goes l i n) (hs : stopB l i n = false) : Goes l i (n + 1) := fun m h1 h2 => by
  by_cases e : m = n
  · rw [e]; exact hs
  · exact h m h1 (by omega)
theorem start_of {l : List ByteArray} {i n : Nat} (hi : i < l.length) (h1 : 1 ≤ n) (h2 : n ≤ l[i].size) (hg : Goes l i n) (hs : stopB l i n = true) : startN l i = n := by
  unfold startN
  rw [dif_pos hi, first_hit (k := n - 1) (fun m hm => hg (m + 1) (by omega) (by omega)) (by show stopB l i (n - 1 + 1) = true; rw [Nat.sub_add_cancel h1]; exact hs) (by omega)]
  simp; omega
def startsL (l : List ByteArray) (k : Nat) : List ByteArray := (List.range k).map (fun i => if h : i < l.length then l[i].extract 0 (startN l i) else ⟨#[]⟩)
theorem starts_zero (l : List ByteArray) : startsL l 0 = [] := rfl
theorem starts_len (l : List ByteArray) (k : Nat) : (startsL l k).length = k := by simp [startsL]
theorem starts_next {l : List ByteArray} {k : Nat} (h : k < l.length) : startsL l (k + 1) = startsL l k ++ [l[k].extract 0 (startN l k)] := by
  simp [startsL, List.range_succ, h]

/-- more than one word begins with a beginning of word i where another one does -/
theorem count_others {l : List ByteArray} {i : Nat} {s : ByteArray} (hi : i < l.length) (hs : preB l[i] s = true) : (decide (1 < (preL l s).length)) = othersB l i s := by
  have e : preL l s = preL (l.take i) s ++ ([l[i]] ++ preL (l.drop (i + 1)) s) := by
    unfold preL
    conv => lhs; rw [← List.take_append_drop i l, List.drop_eq_getElem_cons hi]
    rw [List.filter_append, List.filter_cons_of_pos (by simpa using hs)]
    rfl
  have el : (preL l s).length = (preL (l.take i) s).length + 1 + (preL (l.drop (i + 1)) s).length := by
    rw [e]; simp; omega
  cases ho : othersB l i s
  · have h1 : preL (l.take i) s = [] := by
      unfold preL
      rw [List.filter_eq_nil_iff]
      intro x hx
      obtain ⟨k, hk, rfl⟩ := List.mem_take_iff_getElem.1 hx
      intro hp
      have := others_true (l := l) (i := i) (s := s) (k := k) (by omega) (by omega) (by rw [preAt_get (by omega)]; simpa using hp)
      rw [ho] at this; cases this
    have h2 : preL (l.drop (i + 1)) s = [] := by
      unfold preL
      rw [List.filter_eq_nil_iff]
      intro x hx
      obtain ⟨k, hk, rfl⟩ := List.mem_drop_iff_getElem.1 hx
      intro hp
      have := others_true (l := l) (i := i) (s := s) (k := i + 1 + k) (by omega) (by omega) (by rw [preAt_get (by omega)]; simpa using hp)
      rw [ho] at this; cases this
    rw [el, h1, h2]; simp
  · unfold othersB at ho
    rw [List.any_eq_true] at ho
    obtain ⟨k, hk, hp⟩ := ho
    simp only [List.mem_range] at hk
    simp only [ne_eq, decide_not, Bool.and_eq_true, Bool.not_eq_eq_eq_not, Bool.not_true, decide_eq_false_iff_not] at hp
    obtain ⟨hne, hp⟩ := hp
    rw [preAt_get hk] at hp
    have : 1 ≤ (preL (l.take i) s).length + (preL (l.drop (i + 1)) s).length := by
      rcases Nat.lt_or_gt_of_ne hne with h | h
      · have : 0 < (preL (l.take i) s).length := List.length_pos_of_mem (a := l[k]) (by unfold preL; rw [List.mem_filter]; exact ⟨List.mem_take_iff_getElem.2 ⟨k, by omega, rfl⟩, by simpa using hp⟩)
        omega
      · have : 0 < (preL (l.drop (i + 1)) s).length := List.length_pos_of_mem (a := l[k]) (by unfold preL; rw [List.mem_filter]; exact ⟨List.mem_drop_iff_getElem.2 ⟨k - (i + 1), by omega, by congr 1; omega⟩, by simpa using hp⟩)
        omega
    simp; omega
end Go.Proofs.Ytkkfnmlomjlckaa
