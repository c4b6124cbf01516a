/-
  Rows whose elements are several cells: plain facts on the flat list of cells, and how such a row is read.
-/
import Derived.Test.YtnjdoedhhpkjhaaMem
import Derived.Test.YtnjdoedhhpkjhaaMem2
namespace Go.Proofs.Ytnjdoedhhpkjhaa
open Go.RowKit
set_option linter.unusedVariables false

section
variable {α : Type}
def flat (f : α → List Value) (l : List α) : List Value := l.flatMap f
theorem flat_len {f : α → List Value} {sz : Nat} (hf : ∀ x, (f x).length = sz) (l : List α) : (flat f l).length = l.length * sz := by
  induction l with
  | nil => simp [flat]
  | cons x l ih =>
    simp only [flat, List.flatMap_cons, List.length_append, List.length_cons] at *
    rw [ih, hf, Nat.add_mul, Nat.one_mul, Nat.add_comm]
theorem flat_get {f : α → List Value} {sz : Nat} (hf : ∀ x, (f x).length = sz) (l : List α) (j i : Nat) (hj : j < l.length) (hi : i < sz) : (flat f l)[j * sz + i]? = (f l[j])[i]? := by
  induction l generalizing j with
  | nil => simp at hj
  | cons x l ih =>
    have e : flat f (x :: l) = f x ++ flat f l := by simp [flat]
    rw [e]
    cases j with
    | zero =>
      rw [List.getElem?_append_left (by rw [hf]; omega)]
      simp
    | succ j =>
      rw [List.getElem?_append_right (by rw [hf, Nat.add_mul]; omega), hf]
      have e2 : (j + 1) * sz + i - sz = j * sz + i := by rw [Nat.add_mul]; omega
      rw [e2, ih j (by simpa using hj)]
      simp
theorem flat_lt {n j sz i : Nat} (hj : j < n) (hi : i < sz) : j * sz + i < n * sz := by
  have h : (j + 1) * sz ≤ n * sz := Nat.mul_le_mul_right _ hj
  rw [Nat.add_mul] at h
  omega
/-- two flat lists are one where all their cells are -/
theorem flat_ext {L1 L2 : List Value} {n sz : Nat} (h1 : L1.length = n * sz) (h2 : L2.length = n * sz) (h : ∀ j i, j < n → i < sz → L1[j * sz + i]? = L2[j * sz + i]?) : L1 = L2 := by
  apply List.ext_getElem?
  intro t
  by_cases ht : t < n * sz
  · have hsz : 0 < sz := by
      cases sz with
      | zero => simp at ht
      | succ s => omega
    have hj : t / sz < n := (Nat.div_lt_iff_lt_mul hsz).2 ht
    have hi : t % sz < sz := Nat.mod_lt _ hsz
    have e : t / sz * sz + t % sz = t := by rw [Nat.mul_comm]; exact Nat.div_add_mod t sz
    have := h (t / sz) (t % sz) hj hi
    rwa [e] at this
  · rw [List.getElem?_eq_none (by omega), List.getElem?_eq_none (by omega)]
theorem madeCells_get (z : Array Value) (m t : Nat) (ht : t < m) (hz : t % z.size < z.size) : (madeCells z m).toList[t]? = some (z[t % z.size]'hz) := by
  simp [madeCells, ht]
  simp [getElem!_pos, hz]
/-- new zero elements -/
theorem made_flat {f : α → List Value} {sz : Nat} (hf : ∀ x, (f x).length = sz) (z : Value) (x : α) (n : Nat) (hz : z.cells.toList = f x) (hsz : 0 < sz) : (madeCells z.cells (n * sz)).toList = flat f (List.replicate n x) := by
  have hzs : z.cells.size = sz := by rw [← Array.length_toList, hz, hf]
  apply flat_ext (n := n) (sz := sz)
  · simp [size_madeCells]
  · rw [flat_len hf]; simp
  · intro j i hj hi
    have hlt := flat_lt hj hi
    rw [flat_get hf _ j i (by simpa using hj) hi]
    have hm : (j * sz + i) % z.cells.size = i := by rw [hzs, Nat.mul_comm, Nat.mul_add_mod]; exact Nat.mod_eq_of_lt hi
    rw [madeCells_get _ _ _ hlt (by rw [hm, hzs]; exact hi)]
    simp only [List.getElem_replicate, hm]
    rw [← hz, Array.getElem?_toList, Array.getElem?_eq_getElem (by rw [hzs]; exact hi)]
/-- so many elements done, the rest zero -/
def fillRow (l : List α) (z : α) (k : Nat) : List α := l.take k ++ List.replicate (l.length - k) z
theorem fill_zero (l : List α) (z : α) : fillRow l z 0 = List.replicate l.length z := by simp [fillRow]
theorem fill_all (l : List α) (z : α) : fillRow l z l.length = l := by simp [fillRow]
theorem fill_len (l : List α) (z : α) (k : Nat) (h : k ≤ l.length) : (fillRow l z k).length = l.length := by simp [fillRow]; omega
theorem fill_next (l : List α) (z : α) (k : Nat) (h : k < l.length) : (fillRow l z k).set k l[k] = fillRow l z (k + 1) := by
  unfold fillRow
  have e : l.length - k = (l.length - (k + 1)) + 1 := by omega
  rw [e, List.replicate_succ, List.set_append_right _ _ (by simp; omega)]
  have e2 : k - (l.take k).length = 0 := by simp; omega
  rw [e2, List.set_cons_zero, List.take_succ_eq_append_getElem h, List.append_assoc]
  rfl
end

theorem owns_rdN {w : World} {B : Nat} {E : TypeId} {sz : Nat} {ao : Option Addr} {n cap : Nat} {xs : List Value} (h : w.ownsRow B E sz (.slice ao n cap) n xs) : Rd w ao xs := by
  rcases owns_form h with ⟨_, _, hx⟩ | ⟨g, c, hv, _, hg, _⟩
  · exact .inl hx
  · simp only [Value.slice.injEq] at hv
    obtain ⟨rfl, _, rfl⟩ := hv
    refine .inr ⟨g, 0, rfl, hg, fun j hj => ?_⟩
    have hl : xs.length = n * sz := h.1
    rw [Nat.zero_add, h.cellAt j (by omega), List.getElem?_eq_getElem hj]
/-- one result, a slice of elements of several cells in new memory -/
def FlatRet1 (B : Nat) (E : TypeId) (sz n : Nat) (w : World) (xs : List Value) (e : Ending) (w' : World) : Prop :=
  ∃ ao cap, e = .returned (.slice ao n cap) ∧ w'.ownsRow B E sz (.slice ao n cap) n xs ∧ Below B w w'
def FlatRet (B : Nat) (E : TypeId) (sz n : Nat) (w : World) (xs : List Value) (c : Int) (e : Ending) (w' : World) : Prop :=
  ∃ ao cap, e = .returned (.tuple #[.slice ao n cap, .int .i64 c]) ∧ w'.ownsRow B E sz (.slice ao n cap) n xs ∧ Below B w w'
end Go.Proofs.Ytnjdoedhhpkjhaa
